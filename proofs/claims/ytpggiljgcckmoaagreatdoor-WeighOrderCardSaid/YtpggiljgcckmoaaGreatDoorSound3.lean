/-
  Structs and arrays built and compared; each operation of the list in one theorem.
  No conditions: lemmas over any program.
-/
import Derived.Test.YtpggiljgcckmoaaGreatDoorSound2
import Derived.Laws.StructEq
namespace Go.Aw
open Go Go.RowKit
variable [Laid]

/-! ### Built values -/
omit [Laid] in
theorem fill_step {ι : List Ix} {S : Stab} {w : World} : ∀ {cs : List AV} {us : List Value} (cells : List AV) (vs : List Value) (o : Nat), RepL ι S w cells vs → RepL ι S w cs us → o + cs.length ≤ cells.length →
    ∃ vs', (us.toArray.zipIdx.foldl (fun cs (c, j) => cs.setIfInBounds (o + j) c) vs.toArray) = vs'.toArray ∧ RepL ι S w (setAll cells o cs) vs' := by
  intro cs
  have key : ∀ (cs : List AV) (us : List Value) (cells : List AV) (vs : List Value) (o k : Nat), RepL ι S w cells vs → RepL ι S w cs us → o + k + cs.length ≤ cells.length →
      ∃ vs', ((us.zipIdx k).foldl (fun (cs : Array Value) (c : Value × Nat) => cs.setIfInBounds (o + c.2) c.1) vs.toArray) = vs'.toArray ∧ RepL ι S w (setAll cells (o + k) cs) vs' := by
    intro cs
    induction cs with
    | nil => intro us cells vs o k h1 h2 _; simp at h2; subst h2; exact ⟨vs, rfl, h1⟩
    | cons c cs ih =>
      intro us cells vs o k h1 h2 hl
      cases us with
      | nil => simp at h2
      | cons u us =>
        simp only [RepL_cons] at h2
        simp only [List.length_cons] at hl
        simp only [List.zipIdx_cons, List.foldl_cons]
        have e : vs.toArray.setIfInBounds (o + k) u = (vs.set (o + k) u).toArray := by simp
        rw [e]
        obtain ⟨vs', e1, e2⟩ := ih us (cells.set (o + k) c) (vs.set (o + k) u) o (k + 1) (h1.set _ _ _ h2.1) h2.2 (by simp; omega)
        exact ⟨vs', e1, e2⟩
  intro us cells vs o h1 h2 hl
  obtain ⟨vs', e1, e2⟩ := key cs us cells vs o 0 h1 h2 hl
  refine ⟨vs', ?_, e2⟩
  rw [← e1]
  simp [← Array.foldl_toList]

omit [Laid] in
theorem fill_all {ι : List Ix} {S : Stab} {w : World} (place : Nat → Option (Nat × Nat)) : ∀ (parts : List (Nat × AV × Value)) (cells : List AV) (vs : List Value) (r : List AV), RepL ι S w cells vs →
    (∀ p ∈ parts, Rep ι S w p.2.1 p.2.2 ∧ (place p.1).isSome) →
    bfill cells (parts.map fun p => (((place p.1).getD (0, 0)).1, ((place p.1).getD (0, 0)).2, p.2.1)) = some r →
    ∃ vs', Instr.fill place vs.toArray (parts.map fun p => (p.1, p.2.2)) = some vs'.toArray ∧ RepL ι S w r vs'
  | [], cells, vs, r, h1, _, h => by
    simp only [List.map_nil, bfill, Option.some.injEq] at h
    subst h; exact ⟨vs, rfl, h1⟩
  | (i, x, v) :: parts, cells, vs, r, h1, hp, h => by
    obtain ⟨hx, hi⟩ := hp (i, x, v) (by simp)
    obtain ⟨⟨off, size⟩, hpl⟩ := Option.isSome_iff_exists.1 hi
    simp only [List.map_cons, bfill, hpl, Option.getD_some] at h
    split at h
    · rename_i hc
      obtain ⟨c1, c2, c3⟩ := hc
      obtain ⟨us, e1, r1, one⟩ := Rep_vcells hx c3
      dsimp only at c1 c3 e1 r1
      obtain ⟨vs', e2, r2⟩ := fill_step cells vs off h1 r1 (by omega)
      obtain ⟨vs'', e3, r3⟩ := fill_all place parts _ vs' r r2 (fun p q => hp p (by simp [q])) h
      refine ⟨vs'', ?_, r3⟩
      simp only [List.map_cons, Instr.fill, hpl, e1]
      have l1 := r1.length
      have l2 := h1.length
      have l3 : us.toArray.size = us.length := by simp
      rw [if_neg (by simp; omega), e2]; exact e3
    · cases h

omit [Laid] in
theorem run_mapM_places {P : Program} {w : World} (fs : List Field) (h : fs.all (fun f => tOk P f.type) = true) :
    (fs.mapM (fun f => (do pure (f.offset, ← sizeOf f.type) : Sem (Nat × Nat)))).run P w = .ok (fs.map fun f => (f.offset, P.cellsOf f.type)) w := by
  induction fs with
  | nil => rfl
  | cons f fs ih =>
    simp only [List.all_cons, Bool.and_eq_true] at h
    simp only [List.mapM_cons, Sem.run_bind, run_sizeOf' h.1, Result.andThen_ok, Sem.run_pure, ih h.2, List.map_cons]

omit [Laid] in
theorem constS_vc (x : Value) : vcells (constS x) = [constS x] := by
  unfold constS
  split
  · split <;> rfl
  · rfl
omit [Laid] in
theorem vcells_zero (z : Value) : ∃ vs : List Value, z.cells = vs.toArray ∧ ∀ ι S w, RepL ι S w (vcells (constAV z)) vs := by
  have one : ∀ x : Value, ∀ ι S w, RepL ι S w (vcells (constS x)) [x] := fun x ι S w => by
    rw [constS_vc]; simpa using Rep_constS ι S w x
  cases z
  case agg cs =>
    refine ⟨cs.toList, by simp [Value.cells], fun ι S w => ?_⟩
    have := Rep_constAV ι S w (.agg cs)
    simp only [constAV] at this ⊢
    rw [Rep] at this
    obtain ⟨vs, e, r⟩ := this
    simp only [Value.agg.injEq] at e
    subst e; simpa [vcells] using r
  all_goals exact ⟨[_], rfl, fun ι S w => by simp only [constAV]; exact one _ ι S w⟩

omit [Laid] in
theorem zeroA_some {P : Program} {t : TypeId} {z : AV} (h : zeroA P t = some z) : ∃ u, (∀ w, (zeroValue t).run P w = .ok u w) ∧ z = constAV u := by
  unfold zeroA at h
  cases hi : P.info? t with
  | none => rw [hi] at h; cases h
  | some i =>
    rw [hi] at h
    simp only [Option.bind_some, Option.map_eq_some_iff] at h
    obtain ⟨u, hu, rfl⟩ := h
    exact ⟨u, fun w => by simp [zeroValue, run_info hi, hu], rfl⟩

section
variable {P : Program} {o : Oper} {base : Nat} {ι : List Ix} {S : Stab} {a : Act} {w : World} {st : St} {K : AV → Heap → Prop}

theorem parts_eq (hr : ROK base ι S a w st) (place : Nat → Option (Nat × Nat)) (parts : Array (Nat × Operand)) :
    (∀ p ∈ (parts.toList.map fun p => (p.1, evalA st.fr p.2, a.eval p.2)), Rep ι S w p.2.1 p.2.2) ∧ (parts.map fun (i, x) => (i, a.eval x)).toList = (parts.toList.map fun p => (p.1, evalA st.fr p.2, a.eval p.2)).map fun p => (p.1, p.2.2) := by
  refine ⟨fun p hp => ?_, by simp⟩
  simp only [List.mem_map] at hp
  obtain ⟨q, _, rfl⟩ := hp
  exact hr.eval q.2

theorem s_buildS {t : TypeId} {parts : Array (Nat × Operand)} {fs : Array Field} {z : AV} (hr : ROK base ι S a w st) (ho : o.op = .build t parts) (ht : P.underlying t = some (.struct fs)) (hz : zeroA P t = some z)
    (hk : fs.toList.all (fun f => tOk P f.type) = true) (hp : parts.toList.all (fun p => (fs[p.1]?).isSome) = true)
    (h : iBuild z (parts.toList.map fun p => (((fs[p.1]?).map (·.offset)).getD 0, ((fs[p.1]?).map (fun f => P.cellsOf f.type)).getD 0, evalA st.fr p.2)) fun v => K v st.h) : Meets P o base ι S a w st K := by
  obtain ⟨u, hu, rfl⟩ := zeroA_some hz
  obtain ⟨vs, ez, rz⟩ := vcells_zero u
  unfold iBuild at h
  split at h
  · rename_i cs e
    let places : Array (Nat × Nat) := (fs.toList.map fun f => (f.offset, P.cellsOf f.type)).toArray
    obtain ⟨q1, q2⟩ := parts_eq hr (places[·]?) parts
    have hpl : ∀ i : Nat, places[i]? = (fs[i]?).map fun f => (f.offset, P.cellsOf f.type) := fun i => by simp [places]
    obtain ⟨vs', e1, r1⟩ := fill_all (ι := ι) (S := S) (w := w) (places[·]?) (parts.toList.map fun p => (p.1, evalA st.fr p.2, a.eval p.2)) (vcells (constAV u)) vs cs (rz ι S w) (fun p hpm => ⟨q1 p hpm, by
        simp only [List.mem_map] at hpm
        obtain ⟨q, hq, rfl⟩ := hpm
        have := List.all_eq_true.1 hp q hq
        rw [hpl]; simpa using this⟩) (by
        rw [← e, List.map_map]
        congr 1
        refine List.map_congr_left fun p hpm => ?_
        have := List.all_eq_true.1 hp p hpm
        simp only [Function.comp, hpl]
        obtain ⟨f, hf⟩ := Option.isSome_iff_exists.1 this
        simp [hf])
    refine meets_pure hr (u := .agg vs'.toArray) ?_ (by rw [Rep]; exact ⟨vs', rfl, r1⟩) h
    simp only [execOp, ho]
    refine runv ?_
    have hm : (fs.mapM (fun f => (do pure (f.offset, ← sizeOf f.type) : Sem (Nat × Nat)))).run P w = .ok places w := by
      rw [← Array.toArray_toList (xs := fs)]
      have := run_mapM_places (P := P) (w := w) fs.toList hk
      rw [List.mapM_toArray]
      simp only [Sem.run_map, this, Result.andThen_ok, places]
    simp only [Instr.build, Sem.run_bind, hu, Result.andThen_ok, run_underlying ht, hm, ez, q2, e1, Sem.run_pure]
  · exact h.elim

theorem s_buildA {t e : TypeId} {n : Nat} {parts : Array (Nat × Operand)} {z : AV} (hr : ROK base ι S a w st) (ho : o.op = .build t parts) (ht : P.underlying t = some (.array n e)) (hz : zeroA P t = some z)
    (hk : tOk P e = true) (h : iBuild z (parts.toList.map fun p => (p.1 * P.cellsOf e, P.cellsOf e, evalA st.fr p.2)) fun v => K v st.h) : Meets P o base ι S a w st K := by
  obtain ⟨u, hu, rfl⟩ := zeroA_some hz
  obtain ⟨vs, ez, rz⟩ := vcells_zero u
  unfold iBuild at h
  split at h
  · rename_i cs e'
    obtain ⟨q1, q2⟩ := parts_eq hr (fun i => some (i * P.cellsOf e, P.cellsOf e)) parts
    obtain ⟨vs', e1, r1⟩ := fill_all (ι := ι) (S := S) (w := w) (fun i => some (i * P.cellsOf e, P.cellsOf e)) (parts.toList.map fun p => (p.1, evalA st.fr p.2, a.eval p.2)) (vcells (constAV u)) vs cs (rz ι S w) (fun p hpm => ⟨q1 p hpm, rfl⟩) (by
        rw [← e', List.map_map]; rfl)
    refine meets_pure hr (u := .agg vs'.toArray) ?_ (by rw [Rep]; exact ⟨vs', rfl, r1⟩) h
    simp only [execOp, ho]
    refine runv ?_
    simp only [Instr.build, Sem.run_bind, hu, Result.andThen_ok, run_underlying ht, run_sizeOf' hk, ez, q2, e1, Sem.run_pure]
  · exact h.elim
end

/-! ### Structs and arrays compared -/
omit [Laid] in
theorem eqK_append : ∀ {ks ks' : List Nat} {xs ys : List AV} {r : Bool}, eqK (ks ++ ks') xs ys = some r →
    ∃ p q, eqK ks (xs.take ks.length) (ys.take ks.length) = some p ∧ eqK ks' (xs.drop ks.length) (ys.drop ks.length) = some q ∧ r = (p && q)
  | [], ks', xs, ys, r, h => ⟨true, r, rfl, by simpa using h, by simp⟩
  | k :: ks, ks', [], ys, r, h => by simp [eqK] at h
  | k :: ks, ks', x :: xs, [], r, h => by simp [eqK] at h
  | k :: ks, ks', x :: xs, y :: ys, r, h => by
    simp only [List.cons_append, eqK] at h
    split at h
    · rename_i p q e1 e2
      obtain ⟨p', q', e3, e4, e5⟩ := eqK_append e2
      simp only [Option.some.injEq] at h
      exact ⟨p && p', q', by simp [eqK, e1, e3], by simpa using e4, by rw [← h, e5, Bool.and_assoc]⟩
    · cases h
omit [Laid] in
theorem eqK_length : ∀ {ks : List Nat} {xs ys : List AV} {r : Bool}, eqK ks xs ys = some r → xs.length = ks.length ∧ ys.length = ks.length
  | [], [], [], _, _ => ⟨rfl, rfl⟩
  | [], x :: xs, _, _, h => by simp [eqK] at h
  | [], [], y :: ys, _, h => by simp [eqK] at h
  | k :: ks, [], _, _, h => by simp [eqK] at h
  | k :: ks, x :: xs, [], _, h => by simp [eqK] at h
  | k :: ks, x :: xs, y :: ys, r, h => by
    simp only [eqK] at h
    split at h
    · rename_i e1 e2
      have := eqK_length e2
      simp [this.1, this.2]
    · cases h

/-- A value of a type out of its cells. -/
def ofCells (P : Program) (t : TypeId) (vs : List Value) : Value := if tAgg P t then .agg vs.toArray else vs.headD undef

omit [Laid] in
theorem run_part_of {P : Program} {w : World} {t : TypeId} {vs : List Value} {off : Nat} (hk : tOk P t = true) (hl : off + P.cellsOf t ≤ vs.length) (h1 : tAgg P t = false → P.cellsOf t = 1) :
    (part t vs.toArray off).run P w = .ok (ofCells P t ((vs.drop off).take (P.cellsOf t))) w := by
  unfold part ofCells
  simp only [Sem.run_bind, run_isAgg' hk, Result.andThen_ok]
  cases hg : tAgg P t with
  | true =>
    simp only [if_true, Sem.run_bind, run_sizeOf' hk, Result.andThen_ok, Sem.run_pure]
    congr 2
    apply Array.ext'
    simp [List.extract_eq_take_drop, Nat.add_sub_cancel_left]
  | false =>
    have h1 := h1 hg
    simp only [Bool.false_eq_true, if_false]
    have hlt : off < vs.length := by omega
    have e2 : vs.toArray[off]? = some vs[off] := by simp [hlt]
    have e : (vs.drop off).take 1 = [vs[off]] := by rw [List.drop_eq_getElem_cons hlt]; rfl
    simp only [e2, h1, e]; rfl

omit [Laid] in
theorem flatK_some {P : Program} {d : Nat} {t : TypeId} {ks : List Nat} (h : flatK P d t = some ks) : tOk P t = true ∧ (tAgg P t = false → ks.length = 1) := by
  cases d with
  | zero => simp [flatK] at h
  | succ d =>
    unfold flatK at h
    split at h
    · rename_i hk
      refine ⟨hk, fun hg => ?_⟩
      unfold tAgg at hg
      split at h <;> rename_i e <;> (try rw [e] at hg) <;> (try simp only [isAggD, Bool.true_eq_false] at hg) <;> (try (simp only [Option.some.injEq] at h; subst h; rfl)) <;> cases h
    · cases h

omit [Laid] in
theorem eq_fields {P : Program} {ι : List Ix} {S : Stab} {w : World} {g : TypeId → Option (List Nat)} {D : Nat} {xs ys : List AV} {vs us : List Value} (hx : RepL ι S w xs vs) (hy : RepL ι S w ys us)
    (ih : ∀ t ks, g t = some ks → tOk P t = true ∧ (tAgg P t = false → ks.length = 1) ∧ ∀ xs ys vs us r, RepL ι S w xs vs → RepL ι S w ys us → eqK ks xs ys = some r → (Op.equalIn D t (ofCells P t vs) (ofCells P t us)).run P w = .ok r w) :
    ∀ (fs : List Field) (o : Nat) (ks : List Nat) (r : Bool), flatFs g P o fs = some ks → eqK ks (xs.drop o) (ys.drop o) = some r → (Op.eqFields D vs.toArray us.toArray fs).run P w = .ok r w
  | [], o, ks, r, h, k => by
    simp only [flatFs, Option.some.injEq] at h
    subst h
    have : r = true := by
      cases hxs : xs.drop o <;> cases hys : ys.drop o <;> rw [hxs, hys] at k <;> simp [eqK] at k
      first | exact k | exact k.symm
    subst this; rfl
  | f :: fs, o, ks, r, h, k => by
    simp only [flatFs] at h
    split at h
    · rename_i hc
      obtain ⟨ho, hn⟩ := hc
      cases hg : g f.type with
      | none => rw [hg] at h; cases h
      | some k1 =>
        rw [hg] at h
        simp only [Option.bind_some] at h
        split at h
        · rename_i hz
          cases hf : flatFs g P (o + k1.length) fs with
          | none => rw [hf] at h; cases h
          | some k2 =>
            rw [hf] at h
            simp only [Option.map_some, Option.some.injEq] at h
            subst h
            obtain ⟨p, q, e1, e2, e3⟩ := eqK_append k
            obtain ⟨t1, t2, t3⟩ := ih f.type k1 hg
            have l1 := (eqK_length e1).1
            have l2 := (eqK_length e1).2
            have lx := hx.length
            have ly := hy.length
            simp only [List.length_take, List.length_drop] at l1 l2
            obtain ⟨hz, hz0⟩ := hz
            have hpx : o + P.cellsOf f.type ≤ vs.length := by omega
            have hpy : o + P.cellsOf f.type ≤ us.length := by omega
            have h1 : tAgg P f.type = false → P.cellsOf f.type = 1 := fun q => by rw [hz]; exact t2 q
            have hq := t3 _ _ _ _ p ((hx.drop o).take k1.length) ((hy.drop o).take k1.length) e1
            have rec' := eq_fields hx hy ih fs (o + k1.length) k2 q hf (by simpa [List.drop_drop] using e2)
            simp only [Op.eqFields, ho]
            rw [if_pos hn]
            simp only [Sem.run_bind, run_part_of (P := P) (w := w) t1 hpx h1, run_part_of (P := P) (w := w) t1 hpy h1, Result.andThen_ok, hz, hq, Sem.run_ite]
            cases p with
            | true => simp only [Bool.not_true, Bool.false_eq_true, if_false, rec']; rw [e3]; rfl
            | false => simp only [Bool.not_false, if_true, Sem.run_pure]; rw [e3]; rfl
        · cases h
    · cases h

omit [Laid] in
theorem eqK_rep {ks : List Nat} : ∀ {n : Nat} {xs ys : List AV} {r : Bool}, eqK (repK (n + 1) ks) xs ys = some r →
    ∃ p q, eqK ks (xs.take ks.length) (ys.take ks.length) = some p ∧ eqK (repK n ks) (xs.drop ks.length) (ys.drop ks.length) = some q ∧ r = (p && q) := fun h => eqK_append h

omit [Laid] in
theorem eq_cells {P : Program} {ι : List Ix} {S : Stab} {w : World} {D : Nat} {e : TypeId} {ks : List Nat} {xs ys : List AV} {vs us : List Value} (hx : RepL ι S w xs vs) (hy : RepL ι S w ys us)
    (hk : tOk P e = true) (h1 : tAgg P e = false → ks.length = 1) (hz : P.cellsOf e = ks.length) (hz0 : 0 < ks.length)
    (ih : ∀ xs ys vs us r, RepL ι S w xs vs → RepL ι S w ys us → eqK ks xs ys = some r → (Op.equalIn D e (ofCells P e vs) (ofCells P e us)).run P w = .ok r w) :
    ∀ (n s : Nat) (r : Bool), eqK (repK n ks) (xs.drop (s * ks.length)) (ys.drop (s * ks.length)) = some r →
      (forIn (m := Sem) (List.range' s n) ((none, ()) : Option Bool × Unit) (fun i _ => do
        let a ← part e vs.toArray (i * ks.length)
        let b ← part e us.toArray (i * ks.length)
        let r ← Op.equalIn D e a b
        if (!r) = true then pure (.done (some false, ())) else pure (.yield (none, ())))).run P w = .ok (if r then (none, ()) else (some false, ())) w
  | 0, s, r, h => by
    have : r = true := by
      cases hxs : xs.drop (s * ks.length) <;> cases hys : ys.drop (s * ks.length) <;> rw [hxs, hys] at h <;> simp [eqK, repK] at h
      first | exact h | exact h.symm
    subst this; rfl
  | n + 1, s, r, h => by
    obtain ⟨p, q, e1, e2, e3⟩ := eqK_rep h
    have l1 := (eqK_length e1).1
    have l2 := (eqK_length e1).2
    have lx := hx.length
    have ly := hy.length
    simp only [List.length_take, List.length_drop] at l1 l2
    have hpx : s * ks.length + P.cellsOf e ≤ vs.length := by omega
    have hpy : s * ks.length + P.cellsOf e ≤ us.length := by omega
    have h1' : tAgg P e = false → P.cellsOf e = 1 := fun q => by rw [hz]; exact h1 q
    have hq := ih _ _ _ _ p ((hx.drop (s * ks.length)).take ks.length) ((hy.drop (s * ks.length)).take ks.length) e1
    have rec' := eq_cells hx hy hk h1 hz hz0 ih n (s + 1) q (by rw [Nat.add_mul, Nat.one_mul]; simpa [List.drop_drop] using e2)
    rw [List.range'_succ]
    simp only [List.forIn_cons, Sem.run_bind, run_part_of (P := P) (w := w) hk hpx h1', run_part_of (P := P) (w := w) hk hpy h1', Result.andThen_ok, hz, hq, Sem.run_ite]
    cases p with
    | true => simp only [Bool.not_true, Bool.false_eq_true, if_false, Sem.run_pure, Result.andThen_ok, rec']; rw [e3]; rfl
    | false => simp only [Bool.not_false, if_true, Sem.run_pure, Result.andThen_ok]; rw [e3]; rfl

omit [Laid] in
theorem eq_run {P : Program} {ι : List Ix} {S : Stab} {w : World} : ∀ (d : Nat) (t : TypeId) (ks : List Nat), flatK P d t = some ks → ∀ (D : Nat), d ≤ D → ∀ (xs ys : List AV) (vs us : List Value) (r : Bool), RepL ι S w xs vs → RepL ι S w ys us →
    eqK ks xs ys = some r → (Op.equalIn D t (ofCells P t vs) (ofCells P t us)).run P w = .ok r w
  | 0, t, ks, h, _, _, _, _, _, _, _, _, _, _ => by simp [flatK] at h
  | d + 1, t, ks, h, 0, hD, _, _, _, _, _, _, _, _ => by omega
  | d + 1, t, ks, h, D + 1, hD, xs, ys, vs, us, r, hx, hy, hr => by
    have ih := fun t ks h => eq_run (P := P) (ι := ι) (S := S) (w := w) d t ks h D (by omega)
    obtain ⟨hok, hone⟩ := flatK_some h
    unfold flatK at h
    rw [if_pos hok] at h
    have scalar : ∀ k : Nat, ks = [k] → tAgg P t = false → ∃ x y u v, eqS k x y = some r ∧ Rep ι S w x u ∧ Rep ι S w y v ∧ ofCells P t vs = u ∧ ofCells P t us = v := by
      intro k hks hg
      subst hks
      have l := eqK_length hr
      match xs, ys, vs, us, l, hx, hy, hr with
      | [x], [y], u :: vs', v :: us', _, hx, hy, hr =>
        simp only [RepL_cons] at hx hy
        simp only [eqK] at hr
        split at hr
        · rename_i a b e1 e2
          simp only [Option.some.injEq] at hr e2
          subst e2
          simp only [Bool.and_true] at hr
          subst hr
          exact ⟨x, y, u, v, e1, hx.1, hy.1, by simp [ofCells, hg], by simp [ofCells, hg]⟩
        · cases hr
      | [x], [y], [], _, _, hx, _, _ => simp at hx
      | [x], [y], _ :: _, [], _, _, hy, _ => simp at hy
    split at h
    · rename_i e
      obtain ⟨x, y, u, v, e1, rx, ry, rfl, rfl⟩ := scalar 0 (by simpa using h.symm) (by simp [tAgg, e, isAggD])
      unfold eqS at e1
      split at e1 <;> first | (exfalso; omega) | skip
      · simp only [Rep_v] at rx ry
        simp only [Option.some.injEq] at e1
        rw [rx, ry, ← e1]
        exact run_equalIn_bool' w D t _ _ e
      · cases e1
    · rename_i k e
      obtain ⟨x, y, u, v, e1, rx, ry, rfl, rfl⟩ := scalar 1 (by simpa using h.symm) (by simp [tAgg, e, isAggD])
      unfold eqS at e1
      split at e1 <;> first | (exfalso; omega) | skip
      · simp only [Rep_v] at rx ry
        split at e1
        · rename_i hk
          subst hk
          simp only [Option.some.injEq] at e1
          rw [rx, ry, run_equalIn_int w D t _ k _ _ e, ← e1]
          rfl
        · cases e1
      · cases e1
    · rename_i e
      obtain ⟨x, y, u, v, e1, rx, ry, rfl, rfl⟩ := scalar 2 (by simpa using h.symm) (by simp [tAgg, e, isAggD])
      unfold eqS at e1
      split at e1 <;> first | (exfalso; omega) | skip
      · rename_i _ _ p q _
        simp only [Rep_str] at rx ry
        simp only [Option.some.injEq] at e1
        rw [rx.1, ry.1, run_equalIn_string w D t _ _ e, ← e1]
        simp only [ByteArray.toList_mk]
        congr 1
        by_cases hpq : p = q <;> simp [hpq]
      · cases e1
    · rename_i fs e
      split at h
      · cases h
      · rename_i hsi
        have hg : tAgg P t = true := by simp [tAgg, e, isAggD]
        have hf : P.fieldsOf t = fs := by simp [Program.fieldsOf, e]
        simp only [ofCells, hg, if_true]
        rw [run_equalIn_struct w D t _ _ (by rw [hf]; exact e) (by simpa using hsi), hf]
        exact eq_fields hx hy (fun t ks h => ⟨(flatK_some h).1, (flatK_some h).2, fun xs ys vs us r a b c => ih t ks h xs ys vs us r a b c⟩) fs.toList 0 ks r h (by simpa using hr)
    · rename_i n el e
      cases hf : flatK P d el with
      | none => rw [hf] at h; cases h
      | some k1 =>
        rw [hf] at h
        simp only [Option.bind_some] at h
        split at h
        · rename_i hz
          simp only [Option.some.injEq] at h
          subst h
          have hg : tAgg P t = true := by simp [tAgg, e, isAggD]
          simp only [ofCells, hg, if_true]
          have key := eq_cells hx hy (flatK_some hf).1 (flatK_some hf).2 hz.1 hz.2 (fun xs ys vs us r a b c => ih el k1 hf xs ys vs us r a b c) n 0 r (by simpa using hr)
          simp only [Op.equalIn, Sem.run_bind, run_underlying e, Result.andThen_ok, run_sizeOf' (flatK_some hf).1, hz.1]
          have hfor : ∀ (f : Nat → Option Bool × Unit → Sem (ForInStep (Option Bool × Unit))), forIn (m := Sem) [:n] ((none, ()) : Option Bool × Unit) f = forIn (List.range' 0 n) ((none, ()) : Option Bool × Unit) f := fun f => by
            simp [Std.Legacy.Range.forIn_eq_forIn_range', Std.Legacy.Range.size]
          rw [hfor, key]
          cases r <;> rfl
        · cases h
    · cases h
end Go.Aw
