/-
  Interface values, methods called through them, and what is held against nil.
  No conditions: lemmas over any program.
-/
import Derived.Test.YtpggiljgcckmoaaGreatDoorSound4
namespace Go.Aw
open Go Go.RowKit
variable [Laid]

section
variable {P : Program} {o : Oper} {base : Nat} {ι : List Ix} {S : Stab} {a : Act} {w : World} {st : St} {K : AV → Heap → Prop}

theorem s_mkI {t : TypeId} {x : Operand} (hr : ROK base ι S a w st) (ho : o.op = .makeInterface t x) (hc : P.concrete t = true) (h : iMkI t (evalA st.fr x) fun v => K v st.h) : Meets P o base ι S a w st K := by
  refine meets_pure hr (u := .iface t (a.eval x)) ?_ ?_ h
  · simp only [execOp, ho]
    exact runv (run_makeInterface w t _ hc)
  · rw [Rep]; exact ⟨_, rfl, hr.eval x⟩

theorem s_asI {xT asserted : TypeId} {x : Operand} (hr : ROK base ι S a w st) (ho : o.op = .typeAssert x xT asserted true) (h : iAsI (hasM P asserted) (evalA st.fr x) fun v => K v st.h) : Meets P o base ι S a w st K := by
  have hx := hr.eval x
  unfold iAsI at h
  split at h
  · rename_i t v e
    rw [e] at hx
    have hx' := hx
    rw [Rep] at hx
    obtain ⟨u, ev, r⟩ := hx
    obtain ⟨hh, h⟩ := h
    unfold hasM at hh
    split at hh
    · rename_i want i hu hi
      refine meets_pure hr (u := .tuple #[.iface t u, .bool true]) ?_ ?_ h
      · simp only [execOp, ho, ev]
        exact runv (run_typeAssert_has hu hi (List.isEmpty_iff.1 hh))
      · rw [Rep]
        refine ⟨[.iface t u, .bool true], by simp, ?_⟩
        rw [ev] at hx'
        simp [hx']
    · cases hh
  · exact h.elim

omit [Laid] in
/-- A method, looked up. -/
theorem run_mrow {name : String} {t : TypeId} {f : FuncId} (v : Value) (h : mrow P name t = some f) : hasBody P f = true ∧ (method (P.types.size + Made.depth) t v name).run P w = .ok (f, v) w ∧ (nilAhead (P.types.size + Made.depth) t v name).run P w = .ok (some false) w := by
  unfold mrow at h
  split at h
  · rename_i i e hi hu
    split at h
    · rename_i m hm
      split at h
      · rename_i g hp hf
        split at h
        · rename_i hb
          cases h
          have hpath : m.path.toList = [] := hp
          obtain ⟨d, hd⟩ : ∃ d, P.types.size + Made.depth = d + 1 := Nat.exists_eq_succ_of_ne_zero (by have : 0 < Made.depth := (by decide); show P.types.size + Made.depth ≠ 0; exact Nat.ne_of_gt (Nat.lt_of_lt_of_le this (Nat.le_add_left _ _)))
          refine ⟨hb, ?_, ?_⟩
          · rw [hd]
            simp only [method, Sem.run_bind, run_info hi, Result.andThen_ok, hm, hpath, follow, Sem.run_pure, hf, receiverAt, run_underlying hu, Place.get]
          · rw [hd]
            simp only [nilAhead, Sem.run_bind, run_info hi, Result.andThen_ok, hm, hpath, followBlind, Sem.run_pure, hf]
        · cases h
      · cases h
    · cases h
  · cases h

theorem s_nilF {x : Operand} (hr : ROK base ι S a w st) (ho : o.op = .nilCheck x) (h : iNilF P (evalA st.fr x) fun v => K v st.h) : Meets P o base ι S a w st K := by
  have hx := hr.eval x
  unfold iNilF at h
  split at h
  · rename_i name t v r ys e
    rw [e] at hx
    have hx' := hx
    rw [Rep] at hx
    obtain ⟨vs, us, ev, r1, r2⟩ := hx
    obtain ⟨hm, h⟩ := h
    obtain ⟨f, hf⟩ := Option.isSome_iff_exists.1 hm
    cases vs with
    | nil => simp at r1
    | cons y vs =>
      simp only [RepL_cons] at r1
      have ry := r1.1
      rw [Rep] at ry
      obtain ⟨u, rfl, _⟩ := ry
      refine meets_pure hr (u := a.eval x) ?_ hx' h
      obtain ⟨_, _, hn⟩ := run_mrow (w := w) u hf
      simp only [execOp, ho, ev]
      simp only [List.getElem?_toArray, List.getElem?_cons_zero, Sem.run_bind, run_program, Result.andThen_ok, hn]
      simp
  · rename_i e _
    exact s_nil hr ho h

theorem s_inv {c : Call} {x : Operand} {name : String} (hr : ROK base ι S a w st) (ho : o.op = .call c) (hc : c.callee = .invoke x name) (h : iInv P (mrow P name) (evalA st.fr x) (c.args.toList.map (evalA st.fr)) st.h K) : Meets P o base ι S a w st K := by
  have hv := hr.eval x
  unfold iInv at h
  split at h
  · rename_i t y e
    split at h
    · rename_i f hf
      rw [e, Rep] at hv
      obtain ⟨v, ev, rv⟩ := hv
      obtain ⟨hb, hm, _⟩ := run_mrow (w := w) v hf
      obtain ⟨fn, hfn, hb⟩ : ∃ fn, P.funcs[f]? = some fn ∧ (fn.body.isSome && fn.name != "runtime.NumGoroutine") = true := by
        unfold hasBody at hb
        cases hq : P.funcs[f]? with
        | none => rw [hq] at hb; cases hb
        | some fn => rw [hq] at hb; exact ⟨fn, rfl, hb⟩
      simp only [Bool.and_eq_true, bne_iff_ne, ne_eq] at hb
      have hargs : RepL ι S w (y :: c.args.toList.map (evalA st.fr)) (v :: c.args.toList.map a.eval) := by simpa using ⟨rv, RepL.evals hr _⟩
      have hrun : (execOp a.eval o).run P w = .ok (.enter f (v :: c.args.toList.map a.eval).toArray) w := by
        have e2 : #[v] ++ (#[Value.iface t v] ++ c.args.map a.eval).extract 1 (#[Value.iface t v] ++ c.args.map a.eval).size = (v :: c.args.toList.map a.eval).toArray := by
          apply Array.ext'
          simp
          rw [List.take_of_length_le (by simp)]
        have e3 : (#[Value.iface t v] ++ c.args.map a.eval)[0]? = some (.iface t v) := by
          rw [Array.getElem?_append_left (by simp)]; rfl
        have hne : (fn.name == "runtime.NumGoroutine") = false := by simpa using hb.2
        have hbn : fn.body.isNone = false := by cases hbb : fn.body <;> simp_all
        simp only [execOp, ho, resolve, hc, Sem.run_bind, ev, Sem.run_pure, Result.andThen_ok, invoke, e3, callMethod, run_program, hm, e2, callFunc, hfn, hne, hbn, Bool.false_eq_true, if_false]
      intro Q
      unfold Oper.wp
      rw [hrun, Oper.upon_enter]
      refine (h base ι S w _ hargs hr.hp).mono ?_
      rintro e w' ⟨v, ι', S', r, h', rfl, hE, rv, hH, hl, k⟩
      refine ⟨ι', S', r, h', ?_, ?_, hl, k⟩
      · rw [hr.hp.len]; exact hE
      · have : ROK base ι' S' a w' ⟨st.n, st.fr, h'⟩ := ⟨hr.df, hr.sz, FrOK.evo hE (by rw [hr.hp.len]; exact Nat.le_refl _) hr.fr, hH⟩
        exact this.put o.dst rv
    · exact h.elim
  · exact h.elim

/-- Held against a literal nil, by a fact of the model's '=='. -/
theorem s_nilBy {neg b : Bool} {t yt : TypeId} {x y : Operand} (hr : ROK base ι S a w st) (ho : o.op = .binOp (if neg then .neq else .eql) t x y yt)
    (hg : (eqGuard (if neg then .neq else .eql) t x y (a.eval x) (a.eval y)).run P w = .ok () w) (hb : (binOp (if neg then .neq else .eql) t (a.eval x) (a.eval y)).run P w = .ok (.bool (negB neg b)) w) (k : K (bool (negB neg b)) st.h) : Meets P o base ι S a w st K := by
  refine meets_pure hr (u := .bool (negB neg b)) ?_ (by simp) k
  simp only [execOp, ho]
  refine runv ?_
  rw [Sem.run_bind, hg]
  simp only [Result.andThen_ok]
  exact hb

omit [Laid] in
theorem run_nil_eq {neg b : Bool} {t : TypeId} {x y : Value} (h : (Op.equal t x y).run P w = .ok b w) (hx : (∃ p, x = .pointer p) ∨ ∃ p l c, x = .slice p l c) : (binOp (if neg then .neq else .eql) t x y).run P w = .ok (.bool (negB neg b)) w := by
  rcases hx with ⟨p, rfl⟩ | ⟨p, l, c, rfl⟩ <;> cases neg <;> simp [binOp, h, negB]

theorem s_nilC {neg : Bool} {t yt : TypeId} {x y : Operand} {d : TypeDesc} (hr : ROK base ι S a w st) (ho : o.op = .binOp (if neg then .neq else .eql) t x y yt) (ht : P.underlying t = some d)
    (h : iNilC neg d y (evalA st.fr x) fun v => K v st.h) : Meets P o base ι S a w st K := by
  have hx := hr.eval x
  unfold iNilC at h
  split at h
  · rename_i ms
    have hm : P.underlying t = some (.interface (P.methodsAt t)) := by unfold Program.methodsAt; rw [ht]
    have hy : a.eval (.const .nilIface) = .nilIface := rfl
    unfold iIsN at h
    split at h
    · rename_i b hb
      unfold nilIT at hb
      split at hb
      · rename_i e
        cases hb
        rw [e, Rep_v] at hx
        refine s_nilBy (b := true) hr ho ?_ ?_ h
        · rw [hx, hy]; cases neg <;> cases x <;> rfl
        · rw [hx, hy]
          cases neg with
          | true => exact run_neq_nil_nil w t hm
          | false => exact run_eql_nil_nil w t hm
      · rename_i u z e
        cases hb
        rw [e, Rep] at hx
        obtain ⟨v, hx, _⟩ := hx
        refine s_nilBy (b := false) hr ho ?_ ?_ h
        · rw [hx, hy]; cases neg <;> rfl
        · rw [hx, hy]
          cases neg with
          | true => exact run_neq_held_nil w t u v hm
          | false => exact run_eql_held_nil w t u v hm
      · cases hb
    · exact h.elim
  · rename_i el
    have hy : a.eval (.const (.pointer none)) = .pointer none := rfl
    have fin : ∀ (p : Option Addr), a.eval x = .pointer p → K (bool (negB neg p.isNone)) st.h → Meets P o base ι S a w st K := by
      intro p hv k
      have he : (Op.equal t (.pointer p) (.pointer none)).run P w = .ok p.isNone w := by
        have : ∀ d, (Op.equalIn (d + 1) t (.pointer p) (.pointer none)).run P w = .ok p.isNone w := fun d => by cases p <;> simp [Op.equalIn, run_underlying ht]
        exact this 9999
      refine s_nilBy (b := p.isNone) hr ho ?_ ?_ k
      · rw [hv, hy]; exact run_guard_plain rfl (by intro q; cases q)
      · rw [hv, hy]; exact run_nil_eq he (.inl ⟨_, rfl⟩)
    unfold iIsN at h
    split at h
    · rename_i b hb
      unfold nilPT at hb
      split at hb
      · rename_i e; cases hb; rw [e, Rep_v] at hx; exact fin none hx h
      · rename_i e; cases hb; rw [e, Rep] at hx; obtain ⟨b, _, hx⟩ := hx; exact fin (some _) hx h
      · rename_i e; cases hb; rw [e, Rep] at hx; obtain ⟨b, off, hx, _⟩ := hx; exact fin (some _) hx h
      · cases hb
    · exact h.elim
  · rename_i el l0 c0
    have hy : a.eval (.const (.slice none l0 c0)) = .slice none l0 c0 := rfl
    have fin : ∀ (p : Option Addr) (l c : Nat), a.eval x = .slice p l c → K (bool (negB neg p.isNone)) st.h → Meets P o base ι S a w st K := by
      intro p l c hv k
      have he : (Op.equal t (.slice p l c) (.slice none l0 c0)).run P w = .ok p.isNone w := by
        have : ∀ d, (Op.equalIn (d + 1) t (.slice p l c) (.slice none l0 c0)).run P w = .ok p.isNone w := fun d => by cases p <;> simp [Op.equalIn, run_underlying ht]
        exact this 9999
      refine s_nilBy (b := p.isNone) hr ho ?_ ?_ k
      · rw [hv, hy]; exact run_guard_plain rfl (by intro q; cases q)
      · rw [hv, hy]; exact run_nil_eq he (.inr ⟨_, _, _, rfl⟩)
    unfold iIsN at h
    split at h
    · rename_i b hb
      unfold nilST at hb
      split at hb
      · rename_i e; cases hb; rw [e, Rep_v] at hx; exact fin none _ _ hx h
      · rename_i id off len sz e
        split at hb
        · cases hb
        · cases hb
          rw [e, Rep] at hx
          obtain ⟨bb, p, cap, n, ty, _, ev, c2, _, c4, _⟩ := hx
          rcases c4 with c4 | c4
          · omega
          · subst c4; exact fin (some _) _ _ ev h
      · rename_i sz rows e
        split at hb
        · cases hb
        · cases hb
          rw [e, Rep] at hx
          obtain ⟨p, cap, ev, _, _, c3⟩ := hx
          rcases c3 with c3 | ⟨bb, off, rfl, _⟩
          · cases c3
          · exact fin (some _) _ _ ev h
      · rename_i id sz rows e
        split at hb
        · cases hb
        · cases hb
          rw [e, Rep] at hx
          obtain ⟨⟨p, cap, ev, _, _, c3⟩, _⟩ := hx
          rcases c3 with c3 | ⟨bb, off, rfl, _⟩
          · cases c3
          · exact fin (some _) _ _ ev h
      · cases hb
    · exact h.elim
  · exact h.elim
end
end Go.Aw
