/-
  Its operations are sound (3).
-/
import Derived.Test.YtbecblfbikahkaaGreatDoorDc
import Derived.Lib.UnsafeStr
set_option linter.all false
set_option linter.deprecated false
namespace Go.D
open Go

section
variable {P : Program} {ρ : Mp} {s : St} {w : World}

/-- A block that ends, and a new one in the same row of the model. -/
theorem R.remap (hR : R P ρ s w) {w' : World} {b : Nat} {x : BI} (hb : ρ b = some x) (hl : live s b) (o : DObj) (y : BI) (hy : y.blk = x.blk)
    (hos : w'.os = w.os) (htp : w'.tape = w.tape) (hou : w'.output = w.output) (hsz : w'.heap.size = w.heap.size)
    (hoth : ∀ k, k ≠ x.blk → w'.heap[k]? = w.heap[k]?) (ho : ObjR (upd ρ s.next y) y w' o) (hlo : LoneOk P y o) : Went P ρ s w (upd ρ s.next y) (D.alloc (setB s b .dead) o) w' := by
  have hbn := hR.fresh b x hb
  have hg : ∀ c, getB (D.alloc (setB s b .dead) o) c = if c = s.next then some o else if c = b then some .dead else getB s c := by
    intro c; rw [getB_alloc, next_setB, getB_setB]
  have lv : ∀ c, c ≠ s.next → live (D.alloc (setB s b .dead) o) c → c ≠ b ∧ live s c := by
    intro c hc ⟨q, hq, hq'⟩
    rw [hg, if_neg hc] at hq
    split at hq
    · injection hq with hq; exact absurd hq.symm hq'
    · rename_i e; exact ⟨e, q, hq, hq'⟩
  refine ⟨upd_le hR y, ⟨?_, ?_, ?_, ?_, ?_, ?_, ?_, ?_⟩, ⟨hos, htp, hou, Nat.le_of_eq hsz.symm, ?_⟩, ⟨?_, ?_⟩, ?_, ?_⟩
  · intro c z e
    unfold upd at e
    show c < s.next + 1
    split at e
    · omega
    · have := hR.fresh c z e; omega
  · intro c hc
    have hc : s.next + 1 ≤ c := hc
    rw [hg, if_neg (by omega), if_neg (by omega)]
    exact hR.void c (by omega)
  · intro c z e
    rw [hsz]
    unfold upd at e
    split at e
    · injection e with e; subst e; rw [hy]; exact hR.there b x hb
    · exact hR.there c z e
  · intro c d z z' e1 e2 hne l1 l2
    unfold upd at e1 e2
    split at e1
    · rename_i hc
      injection e1 with e1; subst e1
      split at e2
      · omega
      · rename_i hd
        obtain ⟨d1, d2⟩ := lv d hd l2
        rw [hy]; exact hR.apart b d x z' hb e2 (Ne.symm d1) hl d2
    · rename_i hc
      obtain ⟨c1, c2⟩ := lv c hc l1
      split at e2
      · injection e2 with e2; subst e2
        rw [hy]; exact hR.apart c b z x e1 hb c1 c2 hl
      · rename_i hd
        obtain ⟨d1, d2⟩ := lv d hd l2
        exact hR.apart c d z z' e1 e2 hne c2 d2
  · intro c z q e1 e2
    unfold upd at e1
    rw [hg] at e2
    split at e1
    · rename_i hc
      rw [if_pos hc] at e2
      injection e1 with e1; injection e2 with e2; subst e1; subst e2
      exact ho
    · rename_i hc
      rw [if_neg hc] at e2
      split at e2
      · injection e2 with e2; subst e2; trivial
      · rename_i hcb
        cases q with
        | dead => trivial
        | _ =>
          refine (hR.obj c z _ e1 e2).mono (upd_le hR y) (hoth _ ?_)
          exact hR.apart c b z x e1 hb hcb ⟨_, e2, by simp⟩ hl
  · intro g hg'
    obtain ⟨z, e1, e2⟩ := hR.glob g hg'
    exact ⟨z, upd_le hR y _ _ e1, e2⟩
  · intro c z q e1 e2
    unfold upd at e1
    rw [hg] at e2
    split at e1
    · rename_i hc
      rw [if_pos hc] at e2
      injection e1 with e1; injection e2 with e2; subst e1; subst e2
      exact hlo
    · rename_i hc
      rw [if_neg hc] at e2
      split at e2
      · injection e2 with e2; subst e2; trivial
      · exact hR.lone c z q e1 e2
  · intro g cs e n hg' h1
    obtain ⟨z, h2, h3, h4, _⟩ := hR.globAt hg'
    rw [hg, if_neg (by omega)] at h1
    split at h1
    · injection h1 with h1; cases h1
    · rename_i hc
      rw [hoth g (by rw [← h3]; exact hR.apart g b z x h2 hb hc ⟨_, h1, by simp⟩ hl)]
      exact hR.fix g cs e n hg' h1
  · intro k hk hn
    by_cases e : k = x.blk
    · exact absurd hl (hn b x hb e.symm)
    · exact hoth k e
  · show s.next ≤ s.next + 1; omega
  · intro c hc e
    rw [hg, if_neg (by omega), if_neg]
    intro e'; subst e'; rw [hb] at e; cases e
  · intro c hc hl'
    exact (lv c (by omega) hl').2
  · intro c z e e'
    unfold upd at e
    split at e
    · injection e with e; subst e; exact ⟨by omega, .inr ⟨b, x, hb, hy.symm, hl⟩⟩
    · rw [e] at e'; cases e'

theorem growBy_le : ∀ (k n c : Nat), c ≤ n → Builtin.growBy n k c ≤ 2 * n + 192
  | 0, n, c, h => by simp only [Builtin.growBy]; omega
  | k + 1, n, c, h => by
    simp only [Builtin.growBy]
    split
    · omega
    · rename_i hc
      by_cases h2 : c + (c + 768) / 4 ≤ n
      · exact growBy_le k n _ h2
      · have hstop : ∀ k, Builtin.growBy n k (c + (c + 768) / 4) = c + (c + 768) / 4 := by
          intro k
          cases k with
          | zero => rfl
          | succ k => simp only [Builtin.growBy]; rw [if_pos (by omega)]
        rw [hstop]; omega
theorem cap_le {n c : Nat} (h : c ≤ n) : Builtin.nextslicecap n c ≤ 2 * n + 512 := by
  unfold Builtin.nextslicecap
  split
  · omega
  · split
    · omega
    · have := growBy_le 4 n c h; omega

theorem elemIs_cells {b o e n : Nat} (h : elemIs s (some (b, o)) e n = true) : ∃ cs, getB s b = some (.cells cs e n) := by
  unfold elemIs at h
  simp only at h
  cases hg : getB s b with
  | none => rw [hg] at h; cases h
  | some q =>
    rw [hg] at h
    cases q with
    | cells cs e' n' =>
      simp only [Bool.and_eq_true] at h
      have h1 := Nat.eq_of_beq_eq_true h.1
      have h2 := Nat.eq_of_beq_eq_true h.2
      subst h1; subst h2
      exact ⟨cs, rfl⟩
    | map _ => cases h
    | iter _ _ => cases h
    | dead => cases h

theorem fewBytes_le {e : TypeId} {ti : TypeInfo} (hf : fewBytes P e = some ()) (hi : P.info? e = some ti) : ti.bytes ≤ 4096 := by
  unfold fewBytes bytesC at hf
  rw [hi] at hf
  rcases Bool.eq_false_or_eq_true (Nat.ble ti.bytes 4096) with h0 | h0
  · exact Nat.le_of_ble_eq_true h0
  · simp [h0] at hf

theorem loadN_alike (hR : R P ρ s w) {b o n : Nat} {x : BI} {l : List DV} (hb : ρ b = some x) (h : loadN s b o n = some l) :
    ∃ vs : List Value, VRs ρ l vs ∧ ∀ w', Alike w w' → (loadCells ⟨x.blk, x.base + o, none⟩ n).run P w' = .ok vs.toArray w' := by
  unfold loadN at h
  cases hg : getB s b with
  | none => rw [hg] at h; cases h
  | some ob =>
    rw [hg] at h
    cases ob with
    | cells cs el nn =>
      obtain ⟨h1, rfl⟩ := grab_eq _ _ _ _ h
      obtain ⟨rc, lo, hi', k1, k2, k3, k4, k6, k7⟩ := hR.obj b x _ hb hg
      refine ⟨_, (k7.drop o).take n, ?_⟩
      intro w' ha
      have hlen : ((List.drop o (List.take cs.length (List.drop x.base rc.toList))).take n).length = n := by
        simp; omega
      have := run_loadCells_list (P := P) w' ⟨x.blk, x.base + o, none⟩ ((List.drop o (List.take cs.length (List.drop x.base rc.toList))).take n) (by
        intro j v hj
        rw [add_eq]
        simp only [World.cell?, ha.heap, k1]
        rw [List.getElem?_take] at hj
        split at hj
        · rw [List.getElem?_drop, List.getElem?_take] at hj
          split at hj
          · rw [List.getElem?_drop] at hj
            simpa [Nat.add_assoc] using hj
          · cases hj
        · cases hj)
      rw [hlen] at this
      exact this
    | map _ => cases h
    | iter _ _ => cases h
    | dead => cases h

/-- what is handed to append, in the model, in every world of this heap -/
theorem shown_alike (hR : R P ρ s w) {size : Nat} {d : DV} {v : Value} {l : List DV} {m : Nat} (hv : VR ρ d v) (h : shown s size d = some (l, m)) :
    ∃ vs : List Value, VRs ρ l vs ∧ vs.length = m * size ∧ ∀ w', Alike w w' → (Builtin.lenOf v).run P w' = .ok m w' ∧ (Builtin.firstCells size m v).run P w' = .ok vs.toArray w' := by
  cases d with
  | slice a n =>
    cases hv with
    | sliceNil =>
      have h : some (([] : List DV), 0) = some (l, m) := h
      injection h with h; injection h with h1 h2; subst h1; subst h2
      exact ⟨[], .nil, by simp, fun w' _ => ⟨rfl, rfl⟩⟩
    | @slice b o _ c x hb hle hc =>
      simp only [shown] at h
      split at h
      · rename_i q hq
        injection h with h; injection h with h1 h2; subst h1; subst h2
        obtain ⟨vs, h2, h1⟩ := loadN_alike hR hb hq
        exact ⟨vs, h2, by rw [← h2.length]; exact loadN_length hq, fun w' ha => ⟨rfl, by simpa only [Builtin.firstCells] using h1 w' ha⟩⟩
      · cases h
    | @sliceEmpty b o x hb a' =>
      simp only [shown] at h
      split at h
      · rename_i q hq
        injection h with h; injection h with h1 h2; subst h1; subst h2
        have hq0 : q = [] := by
          have := loadN_length hq
          simpa using this
        subst hq0
        exact ⟨[], .nil, by simp, fun w' _ => ⟨rfl, by simp [Builtin.firstCells, loadCells, loadCellsFrom]⟩⟩
      · cases h
  | str l' =>
    obtain ⟨p, rfl, rfl⟩ := str_eq hv
    simp only [shown] at h
    rcases Bool.eq_false_or_eq_true (Nat.beq size 1) with h0 | h0
    · rw [bif_true h0] at h
      have h1 : size = 1 := Nat.eq_of_beq_eq_true h0
      subst h1
      injection h with h; injection h with e1 e2; subst e1; subst e2
      rw [len_eq, map_length_str, bytesD_eq]
      refine ⟨p.data.toList.map fun b => .int .u8 b.toNat, bytesV _, by rw [Nat.mul_one, List.length_map]; rfl, fun w' _ => ⟨rfl, ?_⟩⟩
      simp only [Builtin.firstCells, Sem.run_pure]
      rw [extract_all]
      congr 1
      apply Array.ext'
      simp
    · rw [bif_false h0] at h; cases h
  | _ => simp [shown] at h

/-- of what types append's second argument may be -/
def SecondT (P : Program) (u : TypeId) : Prop := (∃ e, P.underlying u = some (.slice e)) ∨ P.underlying u = some .string

theorem SecondT.run {u : TypeId} (h : SecondT P u) (w : World) : ((do pure ((← underlying u) matches .int _) : Sem Bool)).run P w = .ok false w := by
  rcases h with ⟨e, h⟩ | h <;> simp [run_underlying' h]

/-- the way on which append makes a new row -/
theorem append_grows {t u r e n sl m c : Nat} {ts : Array TypeId} {base : Option Addr} {y : Value} {old new : List Value} {z : List DV}
    (ht : ts[0]? = some t) (ht1 : ts[1]? = some u) (hu : P.underlying t = some (.slice e)) (hu1 : SecondT P u) (hf : fewBytes P e = some ()) (hz : zeroCellsC P e = some (z, n))
    (hy : ∀ w', Alike w w' → (Builtin.lenOf y).run P w' = .ok m w' ∧ (Builtin.firstCells n m y).run P w' = .ok new.toArray w')
    (hold : ∀ w', Alike w w' → (Builtin.firstCells n sl (.slice base sl c)).run P w' = .ok old.toArray w')
    (hgt : c < sl + m) (hle : sl + m ≤ 2147483648) (hol : old.length = sl * n) (hnl : new.length = m * n) :
    ∃ (cap : Nat) (arr : Array Value), sl + m ≤ cap ∧ arr.size = cap * n ∧ arr.toList.take (old ++ new).length = old ++ new ∧
      (Builtin.append_ ts r #[.slice base sl c, y]).run P w = .ok (.slice (some ⟨w.heap.size, 0, none⟩) (sl + m) cap) (w.drew.alloc (.cells arr e)) := by
  obtain ⟨d, h1, rfl, h3, h4, h5⟩ := zeroCellsC_sound hz
  obtain ⟨ti, v, hi, hzv, hv, hrun⟩ := zeroC_sound h1
  have hV := (ofValue_sound (ρ := fun _ => none) v d hv).cells
  have hvs : v.cells.size = n := by have := hV.length; simp at this; omega
  have hbytes := fewBytes_le hf hi
  have hch : ∃ cap, sl + m ≤ cap ∧ (choose (.appendCap (sl + m) c e)).run P w = .ok cap w.drew := by
    refine ⟨_, ?_, by simp only [run_choose, Question.forced, Bool.false_eq_true, if_false]; rfl⟩
    simp only [Question.cut]
    omega
  obtain ⟨cap, hcap, hcrun⟩ := hch
  let rest : Array Value := Builtin.zeroCells v.cells (cap - (sl + m))
  have hrest : rest.size = (cap - (sl + m)) * n := by simp [rest, Builtin.zeroCells, hvs]
  refine ⟨cap, old.toArray ++ new.toArray ++ rest, hcap, ?_, ?_, ?_⟩
  · simp only [Array.size_append, List.size_toArray, hol, hnl, hrest]
    rw [← Nat.add_mul, ← Nat.add_mul]; congr 1; omega
  · simp only [Array.toList_append]
    rw [List.take_append_of_le_length (Nat.le_refl _), List.take_length]
  · have hcl := cap_le (Nat.le_of_lt hgt)
    have hlim : ¬ (Builtin.nextslicecap (sl + m) c * ti.bytes > 2 ^ 48) := by
      have : Builtin.nextslicecap (sl + m) c * ti.bytes ≤ 4294967808 * 4096 := Nat.mul_le_mul (by omega) hbytes
      have e48 : (2 : Nat) ^ 48 = 281474976710656 := by decide
      omega
    obtain ⟨y1, y2⟩ := hy w (Alike.refl _)
    obtain ⟨_, y3⟩ := hy w.drew (Alike.drew _)
    have o1 := hold w.drew (Alike.drew _)
    have hbig : ¬ (((sl + m : Nat) : Int) > IntKind.i64.max) := by
      have : IntKind.i64.max = 9223372036854775807 := rfl
      omega
    have hz := SecondT.run (w := w) hu1
    have _ := y2
    have _ := hz
    rcases hu1 with ⟨e', hu1⟩ | hu1
    · simp only [Builtin.append_, ht, ht1, idx20, idx21, Sem.run_bind, run_underlying' hu, run_underlying' hu1, Result.andThen_ok, run_sizeOf' h3, Sem.run_pure, Bool.false_eq_true, if_false, y1, Bool.not_false, if_true]
      rw [if_neg (show ¬ sl + m ≤ c by omega)]
      simp only [Sem.run_bind, run_typeInfo' hi, Result.andThen_ok]
      rw [if_neg (by intro hh; exact hbig hh.1)]
      simp only [Sem.run_bind, run_typeInfo' hi, Result.andThen_ok]
      rw [if_neg hlim]
      simp only [Sem.run_bind, hcrun, Result.andThen_ok, run_askRoom, o1, y3, Sem.run_pure, hrun, newRow, run_newObj, World.alloc_eq, run_typeInfo' hi]
      rfl
    · simp only [Builtin.append_, ht, ht1, idx20, idx21, Sem.run_bind, run_underlying' hu, run_underlying' hu1, Result.andThen_ok, run_sizeOf' h3, Sem.run_pure, Bool.false_eq_true, if_false, y1, Bool.not_false, if_true]
      rw [if_neg (show ¬ sl + m ≤ c by omega)]
      simp only [Sem.run_bind, run_typeInfo' hi, Result.andThen_ok]
      rw [if_neg (by intro hh; exact hbig hh.1)]
      simp only [Sem.run_bind, run_typeInfo' hi, Result.andThen_ok]
      rw [if_neg hlim]
      simp only [Sem.run_bind, hcrun, Result.andThen_ok, run_askRoom, o1, y3, Sem.run_pure, hrun, newRow, run_newObj, World.alloc_eq, run_typeInfo' hi]
      rfl
end
end Go.D
namespace Go.D
open Go

section
variable {P : Program} {ρ : Mp} {s : St} {w : World}

theorem loadN_live {b o n : Nat} {q : List DV} (h : loadN s b o n = some q) : live s b := by
  unfold loadN at h
  cases hg : getB s b with
  | none => rw [hg] at h; cases h
  | some ob =>
    rw [hg] at h
    cases ob with
    | cells cs e k => exact ⟨_, hg, by simp⟩
    | map _ => cases h
    | iter _ _ => cases h
    | dead => cases h

/-- append of nothing -/
theorem append_none {t u r e n sl c : Nat} {ts : Array TypeId} {base : Option Addr} {y : Value} {z : List DV}
    (ht : ts[0]? = some t) (ht1 : ts[1]? = some u) (hu : P.underlying t = some (.slice e)) (hu1 : SecondT P u) (hz : zeroCellsC P e = some (z, n))
    (hy : (Builtin.lenOf y).run P w = .ok 0 w ∧ (Builtin.firstCells n 0 y).run P w = .ok #[] w) (hle : sl ≤ c) :
    (Builtin.append_ ts r #[.slice base sl c, y]).run P w = .ok (.slice base sl c) w := by
  obtain ⟨d, h1, rfl, h3, h4, h5⟩ := zeroCellsC_sound hz
  obtain ⟨y1, y2⟩ := hy
  rcases hu1 with ⟨e', hu1⟩ | hu1 <;> cases base <;>
  · simp only [Builtin.append_, ht, ht1, idx20, idx21, Sem.run_bind, run_underlying' hu, run_underlying' hu1, Result.andThen_ok, run_sizeOf' h3, Sem.run_pure, Bool.false_eq_true, if_false, y1, Bool.not_false, if_true]
    rw [if_pos (show sl + 0 ≤ c by omega)]
    simp [y2, storeCells]

/-- append in place -/
theorem append_inPlace {t u r e n sl m c : Nat} {ts : Array TypeId} {a : Addr} {y : Value} {new : List Value} {z : List DV}
    (ht : ts[0]? = some t) (ht1 : ts[1]? = some u) (hu : P.underlying t = some (.slice e)) (hu1 : SecondT P u) (hz : zeroCellsC P e = some (z, n))
    (hy : (Builtin.lenOf y).run P w = .ok m w ∧ (Builtin.firstCells n m y).run P w = .ok new.toArray w) (hle : sl + m ≤ c)
    {w' : World} (hst : (storeCells (a.add (sl * n)) new).run P w = .ok () w') :
    (Builtin.append_ ts r #[.slice (some a) sl c, y]).run P w = .ok (.slice (some a) (sl + m) c) w' := by
  obtain ⟨d, h1, rfl, h3, h4, h5⟩ := zeroCellsC_sound hz
  obtain ⟨y1, y2⟩ := hy
  rcases hu1 with ⟨e', hu1⟩ | hu1 <;>
  · simp only [Builtin.append_, ht, ht1, idx20, idx21, Sem.run_bind, run_underlying' hu, run_underlying' hu1, Result.andThen_ok, run_sizeOf' h3, Sem.run_pure, Bool.false_eq_true, if_false, y1, Bool.not_false, if_true]
    rw [if_pos hle]
    simp only [Sem.run_bind, y2, Result.andThen_ok, hst, Sem.run_pure]

theorem s_append (hR : R P ρ s w) {t u r e n : Nat} {ts : Array TypeId} {x y dv : DV} {x' y' : Value} {s' : St} {z : List DV} (ht : ts[0]? = some t) (ht1 : ts[1]? = some u)
    (hu : P.underlying t = some (.slice e)) (hu1 : SecondT P u) (hf : fewBytes P e = some ()) (hz : zeroCellsC P e = some (z, n)) (hx : VR ρ x x') (hy : VR ρ y y')
    (h : appendD e n x y s = some (dv, s')) : DoesV P ρ s w ((Builtin.append_ ts r #[x', y']).run P w) dv s' := by
  unfold appendD at h
  cases x with
  | slice a k =>
    simp only at h
    split at h
    · rename_i new m old m' hsy hsx
      rcases Bool.eq_false_or_eq_true (Nat.ble (k + m) most && elemIs s a e n && atoms new) with hc | hc
      · rw [bif_true hc] at h
        simp only [Bool.and_eq_true] at hc
        obtain ⟨⟨hm, hel⟩, hat⟩ := hc
        have hm : k + m ≤ 2147483648 := by have := Nat.le_of_ble_eq_true hm; rwa [most_eq] at this
        obtain ⟨ys, hys, hyl, hyr⟩ := shown_alike hR hy hsy
        obtain ⟨hkm, ba, c, xs, rfl, hxs, hx1, hxl⟩ := shownSl_sound hR hx hsx
        obtain ⟨xs2, hxs2, hxl2, hxr⟩ := shown_alike hR hx hsx
        have hxx : xs2 = xs := by
          have e1 := (hxr w (Alike.refl _)).2
          rw [hkm, hx1] at e1
          injection e1 with e1 _
          simpa using e1.symm
        subst hxx
        have hgrow : ∀ (mm : Nat), m = mm + 1 → c < k + m → DoesV P ρ s w ((Builtin.append_ ts r #[.slice ba k c, y']).run P w) dv s' := by
          intro mm hmm hgt
          subst hmm
          injection h with h; injection h with h1 h2; subst h1; subst h2
          obtain ⟨cap, arr, p1, p2, p3, p4⟩ := append_grows (r := r) (P := P) (w := w) (base := ba) (y := y') (old := xs2) (new := ys) ht ht1 hu hu1 hf hz hyr
            (fun w' ha => by have := (hxr w' ha).2; rw [hkm] at this; exact this) hgt hm hxl hyl
          have hall := hxs2.append hys
          have hlen := hall.length
          have hsz : (old ++ new).length ≤ arr.size := by
            rw [hlen, p2, List.length_append, hxl, hyl, ← Nat.add_mul]
            exact Nat.mul_le_mul_right _ p1
          have hend : Went P ρ s w ρ (ends s a) w := by
            cases a with
            | none => exact Went.refl hR
            | some bo =>
              obtain ⟨b, o⟩ := bo
              have : ∃ x, ρ b = some x := by
                cases hx with
                | slice hb _ _ => exact ⟨_, hb⟩
                | sliceEmpty hb _ => exact ⟨_, hb⟩
              obtain ⟨x, hb⟩ := this
              exact R.kill hR b (hR.fresh b x hb) ⟨x, hb⟩
          have hnx : (ends s a).next = s.next := by
            cases a with
            | none => rfl
            | some bo => rfl
          have hnr := new_row hend.rel (cs := old ++ new) (vs := arr) e n hsz (by rw [hlen, p3]; exact hall) (w' := w.drew.alloc (.cells arr e)) ⟨rfl, rfl, rfl, rfl⟩ (fun h => absurd h (by rw [selfC_of hz]; exact Bool.false_ne_true))
          refine ⟨_, _, _, p4, ?_, Went.trans hR hend hnr⟩
          have := VR.slice (ρ := upd ρ (ends s a).next ⟨w.heap.size, 0, arr.size, n⟩) (b := (ends s a).next) (o := 0) (n := k + (mm + 1)) (c := cap) (upd_self _ _ _) p1 (by simp [p2])
          simpa using this
        cases m with
        | zero =>
          simp only at h
          injection h with h; injection h with h1 h2; subst h1; subst h2
          have hy0 : ys = [] := List.eq_nil_of_length_eq_zero (by simpa using hyl)
          subst hy0
          have hkc : k ≤ c := by
            cases hx with
            | sliceNil => omega
            | slice _ h _ => exact h
            | sliceEmpty _ _ => omega
          exact ⟨ρ, w, _, append_none ht ht1 hu hu1 hz (hyr w (Alike.refl _)) hkc, hx, Went.refl hR⟩
        | succ mm =>
          by_cases hgt : c < k + (mm + 1)
          · exact hgrow mm rfl hgt
          · cases hx with
            | sliceNil => omega
            | sliceEmpty _ _ => omega
            | @slice b o _ _ bi hb hle hcl =>
              simp only at h
              injection h with h; injection h with h1 h2; subst h1; subst h2
              obtain ⟨cs, hcs⟩ := elemIs_cells hel
              obtain ⟨rc, lo, hi', k1, k2, k3, k4, k6, k7⟩ := hR.obj b bi _ hb hcs
              subst k4
              have hmul : (k + (mm + 1)) * bi.esz ≤ c * bi.esz := Nat.mul_le_mul_right _ (by omega)
              rw [Nat.add_mul] at hmul
              obtain ⟨w', rc', q1, q2, q3, q4, q5, q6, q7, q8, q9⟩ := run_storeCells (P := P) ys (bi.base + o + k * bi.esz) w rc k1 (atoms_sound hat hys) (by omega) k3 0 (bi.base + o + k * bi.esz) (by omega)
              have hst := append_inPlace (r := r) (c := c) (sl := k) (a := ⟨bi.blk, bi.base + o, none⟩) ht ht1 hu hu1 hz (hyr w (Alike.refl _)) (by omega) (w' := w') (by rw [add_eq]; exact q1)
              have hall := hxs2.append hys
              have hlen := hall.length
              have hln : (xs2 ++ ys).length = (k + (mm + 1)) * bi.esz := by rw [List.length_append, hxl, hyl, ← Nat.add_mul]
              have hw := R.remap hR (s := s) (w' := w') hb ⟨_, hcs, by simp⟩ (.cells (old ++ new) e bi.esz) ⟨bi.blk, bi.base + o, bi.lim, bi.esz⟩ rfl q2 q3 q4 q5 q6
                ⟨rc', lo, hi', q7, by rw [q8]; exact k2, by rw [q8]; exact k3, rfl, by rw [hlen, hln, Nat.add_mul]; show bi.base + o + _ ≤ bi.lim; omega, by
                  rw [hlen]
                  refine (VRs.mono (upd_le hR _) ?_)
                  show VRs ρ (old ++ new) (List.take (xs2 ++ ys).length (List.drop (bi.base + o) rc'.toList))
                  have hold : old = (cs.drop o).take (k * bi.esz) ∧ o + k * bi.esz ≤ cs.length := by
                    simp only [shown] at hsx
                    split at hsx
                    · rename_i q hq
                      injection hsx with hsx; injection hsx with e1 e2; subst e1
                      unfold loadN at hq
                      rw [hcs] at hq
                      simp only at hq
                      obtain ⟨g1, g2⟩ := grab_eq _ _ _ _ hq
                      exact ⟨g2, g1⟩
                    · cases hsx
                  obtain ⟨hold1, hold2⟩ := hold
                  have v1 := ((k7.drop o).take (k * bi.esz)).append hys
                  rw [← hold1] at v1
                  have e1 : List.take (xs2 ++ ys).length (List.drop (bi.base + o) rc'.toList) = List.take (k * bi.esz) (List.drop o (List.take cs.length (List.drop bi.base rc.toList))) ++ ys := by
                    rw [q9, hln, Nat.add_mul, ← hyl]
                    apply List.ext_getElem?
                    intro j
                    have hrl : rc.toList.length = bi.lim := by simpa using k2
                    simp only [List.getElem?_append, List.getElem?_take, List.getElem?_drop, List.length_take, List.length_drop, hrl]
                    by_cases a1 : j < k * bi.esz
                    · simp only [show bi.base + o + j < min (bi.base + o + k * bi.esz) bi.lim by omega, show bi.base + o + j < bi.base + o + k * bi.esz by omega, show o + j < cs.length by omega,
                        show j < min (k * bi.esz) (min cs.length (bi.lim - bi.base) - o) by omega, a1, if_true, show j < k * bi.esz + ys.length by omega]
                      rw [Nat.add_assoc]
                    · obtain ⟨q, rfl⟩ : ∃ q, j = k * bi.esz + q := ⟨j - k * bi.esz, by omega⟩
                      simp only [show ¬ (bi.base + o + (k * bi.esz + q) < min (bi.base + o + k * bi.esz) bi.lim) by omega, show ¬ (k * bi.esz + q < min (k * bi.esz) (min cs.length (bi.lim - bi.base) - o)) by omega, if_false,
                        show bi.base + o + (k * bi.esz + q) - min (bi.base + o + k * bi.esz) bi.lim = q by omega, show k * bi.esz + q - min (k * bi.esz) (min cs.length (bi.lim - bi.base) - o) = q by omega]
                      by_cases a2 : q < ys.length
                      · simp [a2]
                      · simp [a2, List.getElem?_eq_none (show ys.length ≤ q by omega)]
                  rw [e1]; exact v1⟩ (fun h => absurd h (by rw [selfC_of hz]; exact Bool.false_ne_true))
              refine ⟨_, _, _, hst, ?_, hw⟩
              have := VR.slice (ρ := upd ρ s.next ⟨bi.blk, bi.base + o, bi.lim, bi.esz⟩) (b := s.next) (o := 0) (n := k + (mm + 1)) (c := c) (upd_self _ _ _) (by omega) hcl
              exact this
      · rw [bif_false hc] at h; cases h
    · cases h
  | _ => simp at h

theorem s_sliceData (hR : R P ρ s w) {ts : Array TypeId} {r : Nat} {x dv : DV} {x' : Value} {s' : St} (hx : VR ρ x x') (h : opSliceData s x = some (dv, s')) :
    DoesV P ρ s w ((Builtin.unsafeSliceData_ ts r #[x']).run P w) dv s' := by
  unfold opSliceData at h
  split at h
  · cases hx
    injection h with h; injection h with h1 h2; subst h1; subst h2
    exact DoesV.same hR .ptrNil
  · rename_i a n
    cases hx with
    | @slice b o _ c x hb hle hc =>
      injection h with h; injection h with h1 h2; subst h1; subst h2
      refine ⟨ρ, w, _, Lib.run_unsafeSliceData_row w ts r _ _ c (by omega), .ptr hb, Went.refl hR⟩
  · cases h

theorem liesAt_at {e : TypeId} (hc : P.cellsOf e = 1) (count o n : Nat) (hn : o + n ≤ count) : liesAt P P.depth e count o e n = true := by
  have hd : P.depth = (2 * (P.types.size + Made.depth) + 1) + 1 := rfl
  rw [hd]
  simp only [liesAt, Bool.or_eq_true]
  left
  rw [hd]
  simp [rowAt, hc, hn, sameLayout, Nat.mod_one]

theorem run_unsafeString_at (pt it ty e : TypeId) (hp : P.underlying pt = some (.pointer e)) (hc : P.cellsOf e = 1) (g o cells : Nat) (hsh : w.shape? g = some (e, cells)) (l : List UInt8) (h0 : l ≠ []) (hn : o + l.length ≤ cells) (h63 : l.length ≤ 9223372036854775807)
    (hcell : ∀ j x, l[j]? = some x → w.cell? ((⟨g, o, none⟩ : Addr).add j) = some (.int .u8 x.toNat)) :
    (Builtin.unsafeString_ #[pt, it] ty #[.pointer (some ⟨g, o, none⟩), .int .i64 l.length]).run P w = .ok (.string ⟨l.toArray⟩) (w.freeze ⟨g, o, none⟩ l.length) := by
  have hl : l.length ≠ 0 := by simpa using h0
  have hlb := Lib.run_loadBytes (P := P) w l ⟨g, o, none⟩ .empty hcell
  have hlies := liesAt_at (P := P) hc (cells / P.cellsOf e) o l.length (by rw [hc]; simpa using hn)
  have h63' : ¬ (9223372036854775807 : Int) < (l.length : Int) := by omega
  have hdef : Builtin.unsafeString_ #[pt, it] ty #[.pointer (some ⟨g, o, none⟩), .int .i64 l.length] =
      (do
        let n ← asInt (.int .i64 l.length)
        if n < 0 then runtimePanic (.error "unsafe.String: len out of range")
        if n > IntKind.i64.max then unsupported (.unsafePointer "String: a length above the largest int")
        if n = 0 then pure (.string .empty)
        else if ← variablesAt ⟨g, o, none⟩ (← elemOf pt) n.toNat then do
          let s ← loadBytes ⟨g, o, none⟩ .empty n.toNat
          freeze ⟨g, o, none⟩ n.toNat
          pure (.string s)
        else unsupported (.unsafePointer "String: not so many bytes at ptr")) := rfl
  rw [hdef]
  have hmax : IntKind.i64.max = 9223372036854775807 := rfl
  have hneg : ¬ (l.length : Int) < 0 := by omega
  simp [asInt, asIntOf, hmax, h63', hneg, hl, variablesAt, hsh, elemOf, run_underlying hp, hlies, hlb]

theorem cellsOf_sizeC {e n : Nat} (h : sizeC P e = some n) : P.cellsOf e = n := by
  unfold sizeC at h
  unfold Program.cellsOf
  rw [h]; rfl

theorem s_unsafeStr (hR : R P ρ s w) {pt it ty e : Nat} {x y dv : DV} {x' y' : Value} {s' : St} (hp : P.underlying pt = some (.pointer e)) (hz : sizeC P e = some 1) (hx : VR ρ x x') (hy : VR ρ y y')
    (h : opUnsafeStr s e x y = some (dv, s')) : DoesV P ρ s w ((Builtin.unsafeString_ #[pt, it] ty #[x', y']).run P w) dv s' := by
  unfold opUnsafeStr at h
  split at h
  · cases hx; cases hy
    injection h with h; injection h with h1 h2; subst h1; subst h2
    refine ⟨ρ, w, _, Lib.run_unsafeString_none w pt it ty none, VR.str .empty, Went.refl hR⟩
  · rename_i b o n
    rcases Bool.eq_false_or_eq_true (elemIs s (some (b, o)) e 1 && Nat.ble (n + 1) imax) with hc | hc
    · rw [bif_true hc] at h
      simp only [Bool.and_eq_true] at hc
      obtain ⟨h1, h2⟩ := hc
      have h2 : n + 1 ≤ imax := Nat.le_of_ble_eq_true h2
      obtain ⟨cs, hcs⟩ := elemIs_cells h1
      split at h
      · rename_i q hq
        split at h
        · rename_i l hl
          injection h with h; injection h with e1 e2; subst e1; subst e2
          cases hy
          cases hx with
          | @ptr _ _ bi hb =>
            unfold loadN at hq
            rw [hcs] at hq
            simp only at hq
            obtain ⟨g1, rfl⟩ := grab_eq _ _ _ _ hq
            obtain ⟨rc, lo, hi', k1, k2, k3, k4, k6, k7⟩ := hR.obj b bi _ hb hcs
            obtain ⟨u, rfl, hu⟩ := bytesIn_sound ((k7.drop o).take (n + 1)) hl
            have hul : u.length = n + 1 := by
              have := congrArg List.length hu
              simp only [List.length_map, List.length_take, List.length_drop, Array.length_toList] at this
              omega
            have hsh : w.shape? bi.blk = some (e, rc.size) := by simp [World.shape?, k1]
            have hrun := run_unsafeString_at (P := P) (w := w) pt it ty e hp (cellsOf_sizeC hz) bi.blk (bi.base + o) rc.size hsh u (by intro h0; subst h0; simp at hul) (by omega) (by
                rw [hul]; have : imax = 9223372036854775807 := by unfold imax; rfl
                omega) (by
              intro j x hj
              rw [add_eq]
              simp only [World.cell?, k1]
              have : (u.map fun b => Value.int .u8 (b.toNat : Int))[j]? = some (Value.int .u8 (x.toNat : Int)) := by simp [hj]
              rw [← hu, List.getElem?_take] at this
              split at this
              · rw [List.getElem?_drop, List.getElem?_take] at this
                split at this
                · rw [List.getElem?_drop] at this
                  simpa [Nat.add_assoc] using this
                · cases this
              · cases this)
            rw [hul] at hrun
            refine ⟨ρ, _, _, hrun, VR.str ⟨u.toArray⟩, ?_⟩
            have hne : ∀ k, k ≠ bi.blk → (w.freeze ⟨bi.blk, bi.base + o, none⟩ (n + 1)).heap[k]? = w.heap[k]? := by
              intro k hk
              simp only [World.freeze]
              rw [if_neg (by omega)]
              simp only [Array.getElem?_modify]
              rw [if_neg (Ne.symm hk)]
            refine R.write hR hb ⟨_, hcs, by simp⟩ .dead ?_ ?_ ?_ ?_ hne trivial trivial (fun _ _ _ he => by cases he)
            · simp only [World.freeze]; rw [if_neg (by omega)]
            · simp only [World.freeze]; rw [if_neg (by omega)]
            · simp only [World.freeze]; rw [if_neg (by omega)]
            · simp only [World.freeze]; rw [if_neg (by omega)]; simp
        · cases h
      · cases h
    · rw [bif_false hc] at h; cases h
  · cases h
end
end Go.D
namespace Go.D
open Go

section
variable {P : Program} {ρ : Mp} {s : St} {w : World}

/-- what an operation that calls nothing gives, in the model -/
def DoesN (P : Program) (ρ : Mp) (s : St) (w : World) (r : Result Next) (dv : DV) (s' : St) : Prop :=
  ∃ ρ' w' v, (r = .ok (.value v) w' ∨ (r = .ok .skip w' ∧ v = undef)) ∧ VR ρ' dv v ∧ Went P ρ s w ρ' s' w'

theorem DoesN.ofV {x : Sem Value} {dv : DV} {s' : St} (h : DoesV P ρ s w (x.run P w) dv s') : DoesN P ρ s w ((do pure (Next.value (← x)) : Sem Next).run P w) dv s' := by
  obtain ⟨ρ', w', v, h1, h2, h3⟩ := h
  refine ⟨ρ', w', v, .inl ?_, h2, h3⟩
  simp only [Sem.run_bind, h1, Result.andThen_ok, Sem.run_pure]
theorem DoesN.ofU {x : Sem Unit} {s' : St} (h : DoesU P ρ s w (x.run P w) s') : DoesN P ρ s w ((do x; pure Next.skip : Sem Next).run P w) undefD s' := by
  obtain ⟨ρ', w', h1, h3⟩ := h
  refine ⟨ρ', w', undef, .inr ⟨?_, rfl⟩, .tuple .nil, h3⟩
  simp only [Sem.run_bind, h1, Result.andThen_ok, Sem.run_pure]
theorem DoesN.same (hR : R P ρ s w) {dv : DV} {v : Value} (h : VR ρ dv v) : DoesN P ρ s w ((pure (Next.value v) : Sem Next).run P w) dv s :=
  ⟨ρ, w, v, .inl rfl, h, Went.refl hR⟩

theorem s_store (hR : R P ρ s w) {t n : Nat} {d x dv : DV} {v u : Value} {s' : St} (hn : sizeC P t = some n) (hv : VR ρ d v) (hx : VR ρ x u)
    (h : opStore s n d x = some (dv, s')) : DoesU P ρ s w ((Instr.storeAt t v u).run P w) s' ∧ dv = undefD := by
  unfold opStore at h
  split at h
  · rename_i b o
    rcases Bool.eq_false_or_eq_true (Nat.beq (len x.cells) n) with n4 | n4
    · rw [bif_true n4] at h
      have n4 := Nat.eq_of_beq_eq_true n4
      split at h
      · rename_i q hq
        injection h with h; injection h with h1 h2; subst h1; subst h2
        cases hv with
        | @ptr _ _ bi hb =>
          refine ⟨?_, rfl⟩
          have hs := storeN_sound hR hb hx.cells hq
          obtain ⟨ρ', w', h1, h2⟩ := hs
          refine ⟨ρ', w', ?_, h2⟩
          have hl := hx.cells.length
          rw [len_eq] at n4
          simp only [Instr.storeAt, Instr.sureAddr, storeVar, Sem.run_bind, Sem.run_pure, Result.andThen_ok, run_sizeOf' hn]
          rw [if_neg (by simp only [Array.length_toList] at hl; omega)]
          exact h1
      · cases h
    · rw [bif_false n4] at h; cases h
  · cases h

theorem cut_all {α : Type} (l : List α) : cut l 0 l.length = l := by simp [cut]

/-- a text turned into a text of another type -/
theorem s_same (hR : R P ρ s w) {src dst : Nat} {a dv : DV} {a' : Value} {s' : St} (hs : P.underlying src = some .string) (hd : P.underlying dst = some .string) (ha : VR ρ a a')
    (h : opSliceStr s a none none = some (dv, s')) : DoesV P ρ s w ((Go.convert src dst a').run P w) dv s' := by
  unfold opSliceStr at h
  split at h
  · rename_i l
    simp only [boundD, Nat.sub_zero, len_eq] at h
    simp at h
    obtain ⟨h1, h2⟩ := h
    rw [cut_all] at h1
    subst h1; subst h2
    exact s_convStr hR hs hd ha ⟨l, rfl⟩
  · cases h

theorem opt_sound (hR : R P ρ s w) {e : Env} {a : Act} (hE : EnvR ρ e a.tmps) {x : Option Operand} {d : Option Opd} (h : optC P x = some d) : VRo ρ (evo e d) (x.map a.eval) := by
  cases x with
  | none => simp only [optC] at h; injection h with h; subst h; exact VRo.none
  | some y =>
    simp only [optC] at h
    cases hy : opdC P y with
    | none => rw [hy] at h; cases h
    | some q => rw [hy] at h; injection h with h; subst h; exact VRo.some (ev_sound hR hE hy)

theorem builtin_sound (hR : R P ρ s w) {e : Env} {b : Builtin} {ts : Array TypeId} {xs : List Opd} {vs : List Value} {t : TypeId} {d : DOp} {dv : DV} {s' : St} {cs : Array Bool}
    (hV : VRs ρ (evs e xs) vs) (hc : builtinC P b ts.toList xs = some d) (h : opD e s d = some (dv, s')) : DoesN P ρ s w ((Go.builtin b ts t cs vs.toArray).run P w) dv s' := by
  unfold builtinC at hc
  split at hc
  all_goals try (obtain ⟨ts⟩ := ts; simp only at *; subst_vars)
  · rename_i t0 x
    cases hV with
    | cons hx hn =>
      cases hn
      split at hc
      · rename_i hu; injection hc with hc; subst hc
        exact .ofV (s_lenStr hR rfl hu hx h)
      · rename_i hu; injection hc with hc; subst hc
        simp only [opD] at h; injection h with h; injection h with h1 h2; subst h1; subst h2
        exact .ofV (s_lenConst hR rfl hu)
      · rename_i hu; injection hc with hc; subst hc
        exact .ofV (s_lenSl hR rfl hu hx h)
      · rename_i hu; injection hc with hc; subst hc
        exact .ofV (s_lenMap hR rfl hu hx h)
      · cases hc
  · rename_i t0 x
    cases hV with
    | cons hx hn =>
      cases hn
      split at hc
      · rename_i hu; injection hc with hc; subst hc
        exact .ofV (s_cap hR rfl hu hx h)
      · cases hc
  · rename_i t0 u0 x y
    cases hV with
    | cons hx hn =>
      cases hn with
      | cons hy hn =>
        cases hn
        simp only [Option.bind_eq_bind, Option.bind_eq_some_iff] at hc
        obtain ⟨el, q1, ⟨⟩, q2, ⟨zc, n⟩, q3, q4⟩ := hc
        unfold sliceElemC at q1
        split at q1
        · rename_i el' hu; injection q1 with q1; subst q1
          simp only at q4
          split at q4
          · rename_i e' hu1; injection q4 with q4; subst q4
            exact .ofV (s_append hR rfl rfl hu (.inl ⟨_, hu1⟩) q2 q3 hx hy h)
          · rename_i hu1; injection q4 with q4; subst q4
            exact .ofV (s_append hR rfl rfl hu (.inr hu1) q2 q3 hx hy h)
          · cases q4
        · cases q1
  · rename_i x y
    cases hV with
    | cons hx hn =>
      cases hn with
      | cons hy hn =>
        cases hn
        injection hc with hc; subst hc
        exact .ofV (s_min hR hx hy h)
  · rename_i x y
    cases hV with
    | cons hx hn =>
      cases hn with
      | cons hy hn =>
        cases hn
        injection hc with hc; subst hc
        exact .ofV (s_max hR hx hy h)
  · rename_i t0 tr x y
    cases hV with
    | cons hx hn =>
      cases hn with
      | cons hy hn =>
        cases hn
        simp only [Option.bind_eq_bind, Option.bind_eq_some_iff] at hc
        obtain ⟨el, q1, ⟨zc, n⟩, q3, q4⟩ := hc
        unfold sliceElemC at q1
        split at q1
        · rename_i el' hu; injection q1 with q1; subst q1
          injection q4 with q4; subst q4
          obtain ⟨d, h1, rfl, h3, h4, h5⟩ := zeroCellsC_sound q3
          exact .ofV (s_copy hR rfl hu h3 hx hy h)
        · cases q1
  · rename_i x
    cases hV with
    | cons hx hn =>
      cases hn
      injection hc with hc; subst hc
      exact .ofV (s_sliceData hR hx h)
  · rename_i t0 t1 x y
    cases hV with
    | cons hx hn =>
      cases hn with
      | cons hy hn =>
        cases hn
        split at hc
        · rename_i el hu
          split at hc
          · rename_i hz; injection hc with hc; subst hc
            exact .ofV (s_unsafeStr hR hu hz hx hy h)
          · cases hc
        · cases hc
  · cases hc

theorem obind {α β : Type} {x : Option α} {f : α → Option β} {b : β} (h : (x >>= f) = some b) : ∃ a, x = some a ∧ f a = some b := Option.bind_eq_some_iff.1 h

/-- each operation that calls nothing -/
theorem op_sound (hR : R P ρ s w) {e : Env} {a : Act} (hE : EnvR ρ e a.tmps) {o : Oper} {d : DOp} (hc : opC P o = some d) {dv : DV} {s' : St} (h : opD e s d = some (dv, s')) :
    DoesN P ρ s w ((execOp a.eval o).run P w) dv s' := by
  unfold opC at hc
  cases hop : o.op with
  | move x =>
    rw [hop] at hc; simp only at hc
    obtain ⟨q, q1, q2⟩ := obind hc; injection q2 with q2; subst q2
    simp only [execOp, hop]
    simp only [opD] at h; injection h with h; injection h with h1 h2; subst h1; subst h2
    exact .same hR (ev_sound hR hE q1)
  | assign x =>
    rw [hop] at hc; simp only at hc
    obtain ⟨q, q1, q2⟩ := obind hc; injection q2 with q2; subst q2
    simp only [execOp, hop]
    simp only [opD] at h; injection h with h; injection h with h1 h2; subst h1; subst h2
    exact .same hR (ev_sound hR hE q1)
  | pick c x y =>
    rw [hop] at hc; simp only at hc
    obtain ⟨q, q1, hc⟩ := obind hc
    obtain ⟨u, u1, hc⟩ := obind hc
    obtain ⟨v, v1, q2⟩ := obind hc; injection q2 with q2; subst q2
    have e1 := ev_sound hR hE q1
    have e2 := ev_sound hR hE u1
    have e3 := ev_sound hR hE v1
    simp only [execOp, hop]
    simp only [opD, opPick] at h
    split at h
    · rename_i hb; rw [hb] at e1
      generalize a.eval c = z at e1 ⊢
      cases e1
      injection h with h; injection h with h1 h2; subst h1; subst h2
      exact .same hR e2
    · rename_i hb; rw [hb] at e1
      generalize a.eval c = z at e1 ⊢
      cases e1
      injection h with h; injection h with h1 h2; subst h1; subst h2
      exact .same hR e3
    · cases h
  | alloc t =>
    rw [hop] at hc; simp only at hc
    obtain ⟨n, n1, hc⟩ := obind hc
    obtain ⟨z, z1, q2⟩ := obind hc; injection q2 with q2; subst q2
    simp only [execOp, hop]
    exact .ofV (s_alloc hR z1 h)
  | box t x =>
    rw [hop] at hc; simp only at hc
    obtain ⟨n, n1, hc⟩ := obind hc
    obtain ⟨z, z1, q2⟩ := obind hc; injection q2 with q2; subst q2
    simp only [execOp, hop]
    exact .ofV (s_box hR (ev_sound hR hE z1) h)
  | build t ps =>
    rw [hop] at hc; simp only at hc
    obtain ⟨z, z1, hc⟩ := obind hc
    simp only [execOp, hop]
    split at hc
    · rename_i fs hu
      obtain ⟨l, l1, hc⟩ := obind hc
      obtain ⟨p, p1, q2⟩ := obind hc; injection q2 with q2; subst q2
      exact .ofV (s_buildStruct hR z1 hu l1 (by simpa using evp_sound hR hE p1) h)
    · rename_i m el hu
      obtain ⟨n, n1, hc⟩ := obind hc
      obtain ⟨p, p1, q2⟩ := obind hc; injection q2 with q2; subst q2
      exact .ofV (s_buildArray hR z1 hu n1 (by simpa using evp_sound hR hE p1) h)
    · cases hc
  | buildSlice t k ps =>
    rw [hop] at hc; simp only at hc
    obtain ⟨el, l1, hc⟩ := obind hc
    obtain ⟨⟨z, n⟩, z1, hc⟩ := obind hc
    simp only [execOp, hop]
    simp only at hc
    obtain ⟨p, p1, hc⟩ := obind hc
    rcases Bool.eq_false_or_eq_true (Nat.ble (k * n) 65536) with n4 | n4
    · rw [bif_true n4] at hc
      injection hc with q2; subst q2
      unfold sliceElemC at l1
      split at l1
      · rename_i el' hu; injection l1 with l1; subst l1
        exact .ofV (s_buildSlice hR hu z1 (Nat.le_of_ble_eq_true n4) (by simpa using evp_sound hR hE p1) h)
      · cases l1
    · rw [bif_false n4] at hc; cases hc
  | load t x =>
    rw [hop] at hc; simp only at hc
    obtain ⟨g, g1, hc⟩ := obind hc
    obtain ⟨n, n1, hc⟩ := obind hc
    obtain ⟨q, q1, q2⟩ := obind hc; injection q2 with q2; subst q2
    simp only [execOp, hop]
    exact .ofV (s_load hR g1 n1 (ev_sound hR hE q1) h)
  | store t x y =>
    rw [hop] at hc; simp only at hc
    obtain ⟨n, n1, hc⟩ := obind hc
    obtain ⟨q, q1, hc⟩ := obind hc
    obtain ⟨u, u1, q2⟩ := obind hc; injection q2 with q2; subst q2
    simp only [execOp, hop]
    obtain ⟨k1, k2⟩ := s_store hR n1 (ev_sound hR hE q1) (ev_sound hR hE u1) h
    subst k2
    exact .ofU k1
  | nilCheck x =>
    rw [hop] at hc; simp only at hc
    obtain ⟨q, q1, q2⟩ := obind hc; injection q2 with q2; subst q2
    simp only [execOp, hop]
    rcases s_nilCheck hR (ev_sound hR hE q1) h with ⟨rfl, k2, p, k3⟩ | ⟨rfl, k2, f, u, v, k3⟩
    · rw [k3] at k2 ⊢; exact .same hR k2
    · rw [k3] at k2 ⊢; exact .same hR k2
  | binOp op t x y k =>
    rw [hop] at hc; simp only at hc
    obtain ⟨q, q1, hc⟩ := obind hc
    obtain ⟨u, u1, q2⟩ := obind hc; injection q2 with q2; subst q2
    simp only [execOp, hop]
    exact .ofV (s_bin hR (ev_sound hR hE q1) (ev_sound hR hE u1) h)
  | unOp op t x =>
    rw [hop] at hc; simp only at hc
    obtain ⟨q, q1, q2⟩ := obind hc; injection q2 with q2; subst q2
    simp only [execOp, hop]
    exact .ofV (s_un hR (ev_sound hR hE q1) h)
  | convert src dst x =>
    rw [hop] at hc; simp only at hc
    obtain ⟨q, q1, hc⟩ := obind hc
    have hx := ev_sound hR hE q1
    simp only [execOp, hop]
    split at hc
    · rename_i h1 h2; injection hc with hc; subst hc; exact .ofV (s_convInt hR h1 h2 hx h)
    · rename_i h1 h2; injection hc with hc; subst hc; exact .ofV (s_convChr hR h1 h2 hx h)
    · rename_i h1 h2; injection hc with hc; subst hc; exact .ofV (s_same hR h1 h2 hx h)
    · rename_i h1 h2
      split at hc
      · rename_i h3; injection hc with hc; subst hc; exact .ofV (s_bytesOf hR h1 h2 h3 hx h)
      · cases hc
    · rename_i h1 h2
      split at hc
      · rename_i h3; injection hc with hc; subst hc; exact .ofV (s_ofBytes hR h1 h2 h3 hx h)
      · rename_i h3; injection hc with hc; subst hc; exact .ofV (s_ofRunes hR h1 h2 h3 hx h)
      · cases hc
    · cases hc
  | makeInterface t x =>
    rw [hop] at hc; simp only at hc
    simp only [execOp, hop]
    split at hc
    · cases hc
    · rename_i td hu hd
      obtain ⟨q, q1, q2⟩ := obind hc; injection q2 with q2; subst q2
      simp only [opD] at h; injection h with h; injection h with h1 h2; subst h1; subst h2
      refine .ofV ?_
      have hrun : (Instr.makeInterface t (a.eval x)).run P w = .ok (.iface t (a.eval x)) w := by
        simp only [Instr.makeInterface, Sem.run_bind, run_underlying' hd, Result.andThen_ok]
        rfl
      rw [hrun]
      exact DoesV.same hR (.iface _ (ev_sound hR hE q1))
    · cases hc
  | makeFunc fn x y =>
    rw [hop] at hc; simp only at hc
    obtain ⟨q, q1, hc⟩ := obind hc
    obtain ⟨u, u1, q2⟩ := obind hc; injection q2 with q2; subst q2
    simp only [execOp, hop]
    simp only [opD] at h; injection h with h; injection h with h1 h2; subst h1; subst h2
    refine .ofV ?_
    simp only [Instr.makeFunc, Sem.run_pure]
    exact DoesV.same hR (.func _ (by simpa using evs_sound hR hE q1) (by simpa using evs_sound hR hE u1))
  | makeMap t r =>
    rw [hop] at hc
    cases r with
    | none =>
      simp only at hc
      injection hc with hc; subst hc
      simp only [execOp, hop]
      simp only [opD] at h; injection h with h; injection h with h1 h2; subst h1; subst h2
      exact .ofV (s_makeMap hR t)
    | some _ => cases hc
  | makeSlice t l c =>
    rw [hop] at hc; simp only at hc
    obtain ⟨el, l1, hc⟩ := obind hc
    obtain ⟨⟨⟩, f1, hc⟩ := obind hc
    obtain ⟨⟨z, n⟩, z1, hc⟩ := obind hc
    obtain ⟨q, q1, hc⟩ := obind hc
    obtain ⟨u, u1, q2⟩ := obind hc; injection q2 with q2; subst q2
    simp only [execOp, hop]
    unfold sliceElemC at l1
    split at l1
    · rename_i el' hu; injection l1 with l1; subst l1
      exact .ofV (s_makeSlice hR hu f1 z1 (ev_sound hR hE q1) (ev_sound hR hE u1) h)
    · cases l1
  | slice t x lo hi mx =>
    rw [hop] at hc
    cases mx with
    | some _ => cases hc
    | none =>
      simp only at hc
      obtain ⟨q, q1, hc⟩ := obind hc
      obtain ⟨l, l1, hc⟩ := obind hc
      obtain ⟨u, u1, hc⟩ := obind hc
      simp only [execOp, hop]
      have hlo := opt_sound hR hE l1
      have hhi := opt_sound hR hE u1
      split at hc
      · rename_i hu; injection hc with hc; subst hc
        exact .ofV (s_sliceStr hR hu (ev_sound hR hE q1) hlo hhi h)
      · rename_i el hu
        obtain ⟨n, n1, q2⟩ := obind hc; injection q2 with q2; subst q2
        exact .ofV (s_sliceSl hR hu n1 (ev_sound hR hE q1) hlo hhi h)
      · cases hc
  | fieldAddr t x f =>
    rw [hop] at hc; simp only at hc
    obtain ⟨fd, f1, hc⟩ := obind hc
    obtain ⟨n, n1, hc⟩ := obind hc
    simp only [execOp, hop]
    cases n with
    | zero => cases hc
    | succ n =>
      simp only at hc
      obtain ⟨q, q1, q2⟩ := obind hc; injection q2 with q2; subst q2
      exact .ofV (s_offset hR f1 n1 (ev_sound hR hE q1) h)
  | field t x f =>
    rw [hop] at hc; simp only at hc
    obtain ⟨fd, f1, hc⟩ := obind hc
    obtain ⟨g, g1, hc⟩ := obind hc
    obtain ⟨n, n1, hc⟩ := obind hc
    obtain ⟨q, q1, q2⟩ := obind hc; injection q2 with q2; subst q2
    simp only [execOp, hop]
    exact .ofV (s_field hR f1 g1 n1 (ev_sound hR hE q1) h)
  | indexAddr t x i =>
    rw [hop] at hc; simp only at hc
    simp only [execOp, hop]
    split at hc
    · rename_i el hu
      obtain ⟨n, n1, hc⟩ := obind hc
      obtain ⟨q, q1, hc⟩ := obind hc
      obtain ⟨u, u1, q2⟩ := obind hc; injection q2 with q2; subst q2
      exact .ofV (s_indexSl hR hu n1 (ev_sound hR hE q1) (ev_sound hR hE u1) h)
    · rename_i m el hu
      obtain ⟨n, n1, hc⟩ := obind hc
      obtain ⟨q, q1, hc⟩ := obind hc
      obtain ⟨u, u1, q2⟩ := obind hc; injection q2 with q2; subst q2
      exact .ofV (s_indexArr hR hu n1 (ev_sound hR hE q1) (ev_sound hR hE u1) h)
    · cases hc
  | index t x i =>
    rw [hop] at hc; simp only at hc
    simp only [execOp, hop]
    split at hc
    · rename_i hu
      obtain ⟨q, q1, hc⟩ := obind hc
      obtain ⟨u, u1, q2⟩ := obind hc; injection q2 with q2; subst q2
      exact .ofV (s_indexStr hR hu (ev_sound hR hE q1) (ev_sound hR hE u1) h)
    · rename_i m el hu
      obtain ⟨g, g1, hc⟩ := obind hc
      obtain ⟨n, n1, hc⟩ := obind hc
      obtain ⟨q, q1, hc⟩ := obind hc
      obtain ⟨u, u1, q2⟩ := obind hc; injection q2 with q2; subst q2
      exact .ofV (s_indexAgg hR hu g1 n1 (ev_sound hR hE q1) (ev_sound hR hE u1) h)
    · cases hc
  | lookup t x k ok =>
    rw [hop] at hc; simp only at hc
    simp only [execOp, hop]
    split at hc
    · rename_i kt et hu
      obtain ⟨g, g1, hc⟩ := obind hc
      obtain ⟨z, z1, hc⟩ := obind hc
      obtain ⟨q, q1, hc⟩ := obind hc
      obtain ⟨u, u1, q2⟩ := obind hc; injection q2 with q2; subst q2
      exact .ofV (s_lookup hR hu g1 z1 (ev_sound hR hE q1) (ev_sound hR hE u1) h)
    · cases hc
  | mapUpdate t m k x =>
    rw [hop] at hc; simp only at hc
    simp only [execOp, hop]
    split at hc
    · rename_i kt et hu
      obtain ⟨g, g1, hc⟩ := obind hc
      obtain ⟨z, z1, hc⟩ := obind hc
      obtain ⟨q, q1, hc⟩ := obind hc
      obtain ⟨u, u1, q2⟩ := obind hc; injection q2 with q2; subst q2
      obtain ⟨k1, k2⟩ := s_mapPut hR hu g1 (ev_sound hR hE z1) (ev_sound hR hE q1) (ev_sound hR hE u1) h
      subst k2
      exact .ofU k1
    · cases hc
  | insert t m k x =>
    rw [hop] at hc; simp only at hc
    simp only [execOp, hop]
    split at hc
    · rename_i kt et hu
      obtain ⟨g, g1, hc⟩ := obind hc
      obtain ⟨z, z1, hc⟩ := obind hc
      obtain ⟨q, q1, hc⟩ := obind hc
      obtain ⟨u, u1, q2⟩ := obind hc; injection q2 with q2; subst q2
      obtain ⟨k1, k2⟩ := s_mapPut hR hu g1 (ev_sound hR hE z1) (ev_sound hR hE q1) (ev_sound hR hE u1) h
      subst k2
      exact .ofU k1
    · cases hc
  | range t x =>
    rw [hop] at hc; simp only at hc
    simp only [execOp, hop]
    split at hc
    · rename_i hu
      obtain ⟨q, q1, q2⟩ := obind hc; injection q2 with q2; subst q2
      exact .ofV (s_range hR hu (ev_sound hR hE q1) h)
    · cases hc
  | next it b =>
    rw [hop] at hc
    cases b with
    | false => cases hc
    | true =>
      simp only at hc
      obtain ⟨q, q1, q2⟩ := obind hc; injection q2 with q2; subst q2
      simp only [execOp, hop]
      exact .ofV (s_next hR (ev_sound hR hE q1) h)
  | typeAssert x xt t ok =>
    rw [hop] at hc; simp only at hc
    simp only [execOp, hop]
    split at hc
    · cases hc
    · rename_i td hu hd
      obtain ⟨z, z1, hc⟩ := obind hc
      obtain ⟨q, q1, q2⟩ := obind hc; injection q2 with q2; subst q2
      exact .ofV (s_assert hR hd (fun ms hms => hu ms hms) z1 (ev_sound hR hE q1) h)
    · cases hc
  | extract x i =>
    rw [hop] at hc; simp only at hc
    obtain ⟨q, q1, q2⟩ := obind hc; injection q2 with q2; subst q2
    simp only [execOp, hop]
    exact .ofV (s_extract hR (ev_sound hR hE q1) h)
  | call c =>
    rw [hop] at hc; simp only at hc
    obtain ⟨xs, x1, hc⟩ := obind hc
    split at hc
    · injection hc with hc; subst hc; cases h
    · obtain ⟨q, q1, q2⟩ := obind hc; injection q2 with q2; subst q2; cases h
    · rename_i b hcal
      have := builtin_sound hR (e := e) (t := o.type) (cs := c.args.map fun | .const _ => true | _ => false) (evs_sound hR hE x1) hc h
      simp only [execOp, hop, resolve, hcal, Sem.run_bind, Sem.run_pure, Result.andThen_ok, invoke]
      have e1 : c.args.map a.eval = (c.args.toList.map a.eval).toArray := by apply Array.ext'; rw [Array.toList_map]
      rw [e1]
      exact this
    · cases hc
  | panic x =>
    rw [hop] at hc; simp only at hc
    obtain ⟨q, q1, q2⟩ := obind hc; injection q2 with q2; subst q2
    cases h
  | _ => rw [hop] at hc; cases hc
end
end Go.D
