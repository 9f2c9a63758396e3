/-
  The model's operations meet the words of '..Ops'.
  No conditions: lemmas over any program.
-/
import Derived.Test.YtpggiljgcckmoaaGreatDoorOps
import Derived.WalkSpells
import Derived.WalkLawsBesides
namespace Go.Aw
open Go Go.RowKit
variable [Laid]

omit [Laid] in
theorem Rep.unsb {ι : List Ix} {S : Stab} {w : World} {x : AV} {y : Value} (h : Rep ι S w x y) : Rep ι S w (Aw.unsb x) y := by
  unfold Aw.unsb
  split
  · rw [Rep_v] at h; subst h; rw [Rep]; exact ⟨none, rfl⟩
  · rw [Rep] at h; rw [Rep]; exact h.1
  · exact h
omit [Laid] in
theorem Rep.nle {ι : List Ix} {S : Stab} {w : World} {x : AV} {y : Value} (h : Rep ι S w x y) : Rep ι S w (Aw.nle x) y := by
  unfold Aw.nle
  split
  · rw [Rep_v] at h; subst h; rw [Rep]; exact ⟨none, rfl⟩
  · exact h

/-- What is shown of an operation. -/
def Meets (P : Program) (o : Oper) (base : Nat) (ι : List Ix) (S : Stab) (a : Act) (w : World) (st : St) (K : AV → Heap → Prop) : Prop :=
  ∀ Q : Exit → Act → World → Prop, o.wp P a w (fun a' w' => ∃ ι' S' v h', Evo ι.length base ι S w ι' S' w' ∧ ROK base ι' S' a' w' (setS st o.dst v h') ∧ st.h.length ≤ h'.length ∧ K v h') Q

section
variable {P : Program} {o : Oper} {base : Nat} {ι ι' : List Ix} {S S' : Stab} {a : Act} {w w' : World} {st : St} {K : AV → Heap → Prop} {v : AV} {u : Value} {h' : Heap}

theorem meets_value (hr : ROK base ι S a w st) (hrun : (execOp a.eval o).run P w = .ok (.value u) w') (hE : Evo ι.length base ι S w ι' S' w') (r : Rep ι' S' w' v u)
    (hh : HOK base ι' S' w' h') (hl : st.h.length ≤ h'.length) (k : K v h') : Meets P o base ι S a w st K := by
  intro Q
  unfold Oper.wp
  rw [hrun, Oper.upon_value]
  refine ⟨ι', S', v, h', hE, ?_, hl, k⟩
  have : ROK base ι' S' a w' ⟨st.n, st.fr, h'⟩ := ⟨hr.df, hr.sz, FrOK.evo hE (Nat.le_refl _) hr.fr, hh⟩
  exact this.put o.dst r

theorem meets_skip (hr : ROK base ι S a w st) (hrun : (execOp a.eval o).run P w = .ok .skip w') (hE : Evo ι.length base ι S w ι' S' w')
    (hh : HOK base ι' S' w' h') (hl : st.h.length ≤ h'.length) (k : K (.v undef) h') : Meets P o base ι S a w st K := by
  intro Q
  unfold Oper.wp
  rw [hrun, Oper.upon_skip]
  refine ⟨ι', S', .v undef, h', hE, ?_, hl, k⟩
  have : ROK base ι' S' a w' ⟨st.n, st.fr, h'⟩ := ⟨hr.df, hr.sz, FrOK.evo hE (Nat.le_refl _) hr.fr, hh⟩
  exact this.put (x := .v undef) (v := undef) o.dst (by simp)

/-- The value is known, and the memory is as it was. -/
theorem meets_pure (hr : ROK base ι S a w st) (hrun : (execOp a.eval o).run P w = .ok (.value u) w) (r : Rep ι S w v u) (k : K v st.h) : Meets P o base ι S a w st K :=
  meets_value hr hrun (Evo.refl _ _ _ _ _) r hr.hp (Nat.le_refl _) k
end

omit [Laid] in
theorem runv {P : Program} {w w' : World} {x : Sem Value} {u : Value} (h : x.run P w = .ok u w') : (do pure (Next.value (← x)) : Sem Next).run P w = .ok (.value u) w' := by
  rw [Sem.run_bind, h]; rfl
omit [Laid] in
theorem runu {P : Program} {w w' : World} {x : Sem Unit} (h : x.run P w = .ok () w') : (do x; pure Next.skip : Sem Next).run P w = .ok .skip w' := by
  rw [Sem.run_bind, h]; rfl

omit [Laid] in
theorem run_info {P : Program} {w : World} {t : TypeId} {i : TypeInfo} (h : P.info? t = some i) : (typeInfo t).run P w = .ok i w := by
  simp [typeInfo, h]
omit [Laid] in
theorem run_sizeOf' {P : Program} {w : World} {t : TypeId} (h : tOk P t = true) : (sizeOf t).run P w = .ok (P.cellsOf t) w := by
  unfold tOk at h
  simp only [Bool.and_eq_true, Option.isSome_iff_exists] at h
  obtain ⟨⟨i, hi⟩, _⟩ := h
  simp [sizeOf, run_info hi, Program.cellsOf, hi]
omit [Laid] in
theorem run_isAgg' {P : Program} {w : World} {t : TypeId} (h : tOk P t = true) : (isAgg t).run P w = .ok (tAgg P t) w := by
  unfold tOk at h
  simp only [Bool.and_eq_true, Option.isSome_iff_exists] at h
  obtain ⟨_, ⟨d, hd⟩⟩ := h
  unfold isAgg tAgg
  simp only [Sem.run_bind, run_underlying hd, Result.andThen_ok, hd]
  cases d <;> rfl

omit [Laid] in
theorem iWr_spec {k : IntKind} {n : Int} {K : AV → Prop} (h : iWr k n K) : K (.v (.int k (k.wrap n))) := by
  unfold iWr at h
  split at h
  · obtain ⟨h1, h2⟩ := h
    rw [IntWalk.i64_in n ⟨h1.1, h1.2⟩]; exact h2
  · exact h

section
variable {P : Program} {o : Oper} {base : Nat} {ι : List Ix} {S : Stab} {a : Act} {w : World} {st : St} {K : AV → Heap → Prop}

theorem s_move {x : Operand} (hr : ROK base ι S a w st) (ho : o.op = .move x ∨ o.op = .assign x) (h : K (evalA st.fr x) st.h) : Meets P o base ι S a w st K :=
  meets_pure hr (by rcases ho with ho | ho <;> simp [execOp, ho]) (hr.eval x) h

theorem s_pick {c x y : Operand} (hr : ROK base ι S a w st) (ho : o.op = .pick c x y) (h : iPick (evalA st.fr c) (evalA st.fr x) (evalA st.fr y) fun v => K v st.h) : Meets P o base ι S a w st K := by
  obtain ⟨t, e, h1, h2⟩ := h
  have hc := hr.eval c
  rw [e] at hc; simp only [Rep_v] at hc
  cases t with
  | true => exact meets_pure hr (u := a.eval x) (by simp [execOp, ho, hc, asBool]) (hr.eval x) (h1 rfl)
  | false => exact meets_pure hr (u := a.eval y) (by simp [execOp, ho, hc, asBool]) (hr.eval y) (h2 rfl)

omit [Laid] in
theorem run_int {op : BinOp} {k : IntKind} {t : TypeId} {x y : Int} {K : AV → Prop} (hs : isShift op = false) (h : iInt op k x y K) : ∃ u, (binOp op t (.int k x) (.int k y)).run P w = .ok u w ∧ K (.v u) := by
  cases op <;> simp only [isShift, Bool.true_eq_false] at hs <;> simp only [iInt] at h
  case add => exact ⟨_, by simp [binOp, Op.intArith], iWr_spec h⟩
  case sub => exact ⟨_, by simp [binOp, Op.intArith], iWr_spec h⟩
  case mul => exact ⟨_, by simp [binOp, Op.intArith], iWr_spec h⟩
  case quo => exact ⟨_, by simp [binOp, Op.intDiv, h.1], h.2⟩
  case rem => exact ⟨_, by simp [binOp, Op.intDiv, h.1], h.2⟩
  case and => exact ⟨_, by simp only [binOp, Op.intBits]; rw [if_neg (by simp)]; rfl, h⟩
  case or => exact ⟨_, by simp only [binOp, Op.intBits]; rw [if_neg (by simp)]; rfl, h⟩
  case xor => exact ⟨_, by simp only [binOp, Op.intBits]; rw [if_neg (by simp)]; rfl, h⟩
  case andNot => exact ⟨_, by simp only [binOp, Op.intBits]; rw [if_neg (by simp)]; rfl, h⟩
  case eql => exact ⟨_, by simp only [binOp, Op.intCmp]; simp; rfl, h⟩
  case neq => exact ⟨_, by simp only [binOp, Op.intCmp]; simp; rfl, h⟩
  case lss => exact ⟨_, by simp only [binOp, Op.intCmp]; rw [if_neg (by simp)]; rfl, h⟩
  case leq => exact ⟨_, by simp only [binOp, Op.intCmp]; rw [if_neg (by simp)]; rfl, h⟩
  case gtr => exact ⟨_, by simp only [binOp, Op.intCmp]; rw [if_neg (by simp)]; rfl, h⟩
  case geq => exact ⟨_, by simp only [binOp, Op.intCmp]; rw [if_neg (by simp)]; rfl, h⟩

omit [Laid] in
theorem run_shift {op : BinOp} {k k' : IntKind} {t : TypeId} {x y : Int} {K : AV → Prop} (hs : isShift op = true) (h : iShift op k x y K) : ∃ u, (binOp op t (.int k x) (.int k' y)).run P w = .ok u w ∧ K (.v u) := by
  obtain ⟨h0, h⟩ := h
  have h0' : ¬ y < 0 := by omega
  cases op <;> simp only [isShift, Bool.false_eq_true] at hs <;> simp only at h
  case shl => exact ⟨_, by simp [binOp, Op.shift, h0'], h⟩
  case shr => exact ⟨_, by simp [binOp, Op.shift, h0'], h⟩

omit [Laid] in
theorem run_str {op : BinOp} {t : TypeId} {x y : List UInt8} {K : AV → Prop} (hx : x.length ≤ maxLen) (hy : y.length ≤ maxLen) (h : iStr op x y K) :
    ∃ v u, (binOp op t (.string ⟨x.toArray⟩) (.string ⟨y.toArray⟩)).run P w = .ok u w ∧ (∀ ι S, Rep ι S w v u) ∧ K v := by
  have dec : ∀ a b : List UInt8, (a == b) = decide (a = b) := fun a b => by by_cases q : a = b <;> simp [q]
  cases op <;> simp only [iStr] at h
  case add =>
    refine ⟨_, .string ⟨(x ++ y).toArray⟩, ?_, fun ι S => by simpa using h.1, h.2⟩
    have h1 := h.1
    unfold maxLen at h1
    have e1 : (⟨x.toArray⟩ : ByteArray).size = x.length := rfl
    have e2 : (⟨y.toArray⟩ : ByteArray).size = y.length := rfl
    have e3 : (⟨x.toArray⟩ ++ ⟨y.toArray⟩ : ByteArray) = ⟨(x ++ y).toArray⟩ := by
      apply ByteArray.ext; simp
    simp only [binOp_string_add, Op.stringOp, e1, e2, e3]
    rw [if_neg (by simp only [IntKind.max, IntKind.signed, IntKind.bits]; simp; omega)]
    rfl
  case eql => exact ⟨_, _, by simp [binOp, Op.stringOp]; rfl, fun ι S => by simp [dec], h⟩
  case neq => exact ⟨_, _, by simp [binOp, Op.stringOp]; rfl, fun ι S => by simp [dec], h⟩
  case lss => exact ⟨_, _, by simp [binOp, Op.stringOp]; rfl, fun ι S => by simp, h⟩
  case leq => exact ⟨_, _, by simp [binOp, Op.stringOp]; rfl, fun ι S => by simp [dec], h⟩
  case gtr => exact ⟨_, _, by simp [binOp, Op.stringOp]; rfl, fun ι S => by simp [dec], h⟩
  case geq => exact ⟨_, _, by simp [binOp, Op.stringOp]; rfl, fun ι S => by simp, h⟩

omit [Laid] in
theorem run_guard_plain {op : BinOp} {t : TypeId} {x y : Operand} {p q : Value} (h : p.oneCell' = true) (h' : p ≠ .nilIface) : (eqGuard op t x y p q).run P w = .ok () w := by
  unfold eqGuard
  cases op <;> (try rfl) <;> cases p <;> first | rfl | (exact absurd rfl h') | cases h

theorem s_bin {op : BinOp} {t yt : TypeId} {x y : Operand} (hr : ROK base ι S a w st) (ho : o.op = .binOp op t x y yt)
    (h : iBin op (evalA st.fr x) (evalA st.fr y) fun v => K v st.h) : Meets P o base ι S a w st K := by
  have hx := hr.eval x
  have hy := hr.eval y
  generalize evalA st.fr x = X at *
  generalize evalA st.fr y = Y at *
  unfold iBin at h
  split at h
  · rename_i k p k' q
    simp only [Rep_v] at hx hy
    have hg : (eqGuard op t x y (a.eval x) (a.eval y)).run P w = .ok () w := run_guard_plain (by rw [hx]; rfl) (by rw [hx]; intro e; cases e)
    split at h
    · rename_i hs
      obtain ⟨u, e, k1⟩ := run_shift (P := P) (w := w) (t := t) (k' := k') hs h
      exact meets_pure hr (u := u) (by simp only [execOp, ho]; exact runv (by rw [Sem.run_bind, hg]; simpa [hx, hy] using e)) (by simp) k1
    · rename_i hs
      obtain ⟨rfl, h⟩ := h
      obtain ⟨u, e, k1⟩ := run_int (P := P) (w := w) (t := t) (by simpa using hs) h
      exact meets_pure hr (u := u) (by simp only [execOp, ho]; exact runv (by rw [Sem.run_bind, hg]; simpa [hx, hy] using e)) (by simp) k1
  · rename_i p q
    simp only [Rep_str] at hx hy
    have hg : (eqGuard op t x y (a.eval x) (a.eval y)).run P w = .ok () w := run_guard_plain (by rw [hx.1]; rfl) (by rw [hx.1]; intro e; cases e)
    obtain ⟨v, u, e, r, k1⟩ := run_str (P := P) (w := w) (t := t) hx.2 hy.2 h
    exact meets_pure hr (u := u) (by simp only [execOp, ho]; exact runv (by rw [Sem.run_bind, hg]; simpa [hx.1, hy.1] using e)) (r ι S) k1
  · exact h.elim

theorem s_binB {op : BinOp} {t yt : TypeId} {x y : Operand} (hr : ROK base ι S a w st) (ho : o.op = .binOp op t x y yt) (ht : P.underlying t = some .bool)
    (h : iBinB op (evalA st.fr x) (evalA st.fr y) fun v => K v st.h) : Meets P o base ι S a w st K := by
  have hx := hr.eval x
  have hy := hr.eval y
  generalize evalA st.fr x = X at *
  generalize evalA st.fr y = Y at *
  unfold iBinB at h
  split at h
  · rename_i p q
    simp only [Rep_v] at hx hy
    have hg : (eqGuard op t x y (a.eval x) (a.eval y)).run P w = .ok () w := run_guard_plain (by rw [hx]; rfl) (by rw [hx]; intro e; cases e)
    split at h
    · exact meets_pure hr (u := .bool (p == q)) (by simp only [execOp, ho]; exact runv (by rw [Sem.run_bind, hg]; simpa [hx, hy] using run_eql_bool w t p q ht)) (by simp) h
    · exact meets_pure hr (u := .bool (!(p == q))) (by simp only [execOp, ho]; exact runv (by rw [Sem.run_bind, hg]; simpa [hx, hy] using run_neq_bool w t p q ht)) (by simp) h
    · exact h.elim
  · exact h.elim

theorem s_not {t : TypeId} {x : Operand} (hr : ROK base ι S a w st) (ho : o.op = .unOp .not t x) (h : iNot (evalA st.fr x) fun v => K v st.h) : Meets P o base ι S a w st K := by
  obtain ⟨b, e, h⟩ := h
  have hx := hr.eval x
  rw [e] at hx; simp only [Rep_v] at hx
  exact meets_pure hr (u := .bool (!b)) (by simp [execOp, ho, hx, Op.unary]) (by simp) h
theorem s_neg {t : TypeId} {x : Operand} (hr : ROK base ι S a w st) (ho : o.op = .unOp .neg t x) (h : iNeg (evalA st.fr x) fun v => K v st.h) : Meets P o base ι S a w st K := by
  obtain ⟨k, n, e, h⟩ := h
  have hx := hr.eval x
  rw [e] at hx; simp only [Rep_v] at hx
  exact meets_pure hr (u := .int k (k.wrap (0 - n))) (by simp [execOp, ho, hx, Op.unary, Op.intArith]) (by simp) (iWr_spec h)
theorem s_conv {s d : TypeId} {x : Operand} {k k' : IntKind} (hr : ROK base ι S a w st) (ho : o.op = .convert s d x) (hs : P.underlying s = some (.int k')) (hd : P.underlying d = some (.int k))
    (h : iConv k (evalA st.fr x) fun v => K v st.h) : Meets P o base ι S a w st K := by
  obtain ⟨k', n, e, h⟩ := h
  have hx := hr.eval x
  rw [e] at hx; simp only [Rep_v] at hx
  exact meets_pure hr (u := .int k (k.wrap n)) (by simp [execOp, ho, hx, convert, run_underlying hs, run_underlying hd, Conv.intToInt]) (by simp) h
theorem s_convS {s d : TypeId} {x : Operand} (hr : ROK base ι S a w st) (ho : o.op = .convert s d x) (hs : P.underlying s = some .string) (hd : P.underlying d = some .string)
    (h : ∃ l, evalA st.fr x = .str l ∧ K (evalA st.fr x) st.h) : Meets P o base ι S a w st K := by
  obtain ⟨l, e, h⟩ := h
  have hx := hr.eval x
  have hx' := hx
  rw [e] at hx; simp only [Rep_str] at hx
  exact meets_pure hr (u := a.eval x) (by simp only [execOp, ho]; exact runv (by simp [convert, run_underlying hs, run_underlying hd, hx.1])) hx' h
theorem s_extr {x : Operand} {i : Nat} (hr : ROK base ι S a w st) (ho : o.op = .extract x i) (h : iExtr i (evalA st.fr x) fun v => K v st.h) : Meets P o base ι S a w st K := by
  have hx := hr.eval x
  unfold iExtr at h
  split at h
  · rename_i cs e
    rw [e, Rep] at hx
    obtain ⟨vs, e1, r⟩ := hx
    split at h
    · rename_i c ec
      obtain ⟨v, ev, rv⟩ := r.get i c ec
      exact meets_pure hr (u := v) (by simp only [execOp, ho, e1]; exact runv (by simp [Instr.extract, ev])) rv h
    · exact h.elim
  · exact h.elim

omit [Laid] in
theorem run_part {t : TypeId} {cs : List AV} {vs : List Value} {off : Nat} {K : AV → Prop} (ht : tOk P t = true) (r : RepL ι S w cs vs) (h : ldP (tAgg P t) (P.cellsOf t) (cs.drop off) K) :
    ∃ v u, (part t vs.toArray off).run P w = .ok u w ∧ Rep ι S w v u ∧ K v := by
  unfold part
  simp only [Sem.run_bind, run_isAgg' ht, Result.andThen_ok]
  unfold ldP at h
  split at h
  · rename_i hg
    rw [hg]
    simp only [if_true, Sem.run_bind, run_sizeOf' ht, Result.andThen_ok, Sem.run_pure]
    refine ⟨_, _, rfl, ?_, h.2⟩
    rw [Rep]
    refine ⟨(vs.drop off).take (P.cellsOf t), ?_, (r.drop off).take _⟩
    simp [List.extract_eq_take_drop, Nat.add_sub_cancel_left]
  · rename_i hg
    rw [hg]
    simp only [Bool.false_eq_true, if_false]
    split at h
    · rename_i c rest e
      have ec : cs[off]? = some c := by
        have := congrArg (fun l => l[0]?) e
        simpa using this
      obtain ⟨v, ev, rv⟩ := r.get off c ec
      exact ⟨c, v, by simp [ev], rv, h⟩
    · exact h.elim

theorem s_field {t : TypeId} {x : Operand} {i : Nat} {fs : Array Field} {f : Field} (hr : ROK base ι S a w st) (ho : o.op = .field t x i) (ht : P.underlying t = some (.struct fs)) (hf : fs[i]? = some f) (hk : tOk P f.type = true)
    (h : iFld (tAgg P f.type) f.offset (P.cellsOf f.type) (evalA st.fr x) fun v => K v st.h) : Meets P o base ι S a w st K := by
  have hx := hr.eval x
  unfold iFld at h
  split at h
  · rename_i cs e
    rw [e, Rep] at hx
    obtain ⟨vs, e1, r⟩ := hx
    obtain ⟨v, u, hrun, rv, k⟩ := run_part (P := P) hk r h
    exact meets_pure hr (u := u) (by simp only [execOp, ho, e1]; exact runv (by simp [Instr.field, run_underlying ht, hf, asAgg, hrun])) rv k
  · exact h.elim

theorem s_idxS {t : TypeId} {x i : Operand} (hr : ROK base ι S a w st) (ho : o.op = .index t x i) (ht : P.underlying t = some .string) (h : iIdxS (evalA st.fr x) (evalA st.fr i) fun v => K v st.h) : Meets P o base ι S a w st K := by
  have hx := hr.eval x
  have hi := hr.eval i
  unfold iIdxS at h
  split at h
  · rename_i l k n e1 e2
    rw [e1] at hx; rw [e2] at hi
    simp only [Rep_str, Rep_v] at hx hi
    obtain ⟨⟨h0, h1⟩, h⟩ := h
    have hn : n.toNat < l.length := by omega
    refine meets_pure hr (u := .int .u8 (l.getD n.toNat 0).toNat) (by
      simp only [execOp, ho, hx.1, hi]
      refine runv ?_
      have q : (⟨l.toArray⟩ : ByteArray)[n.toNat]? = some (l.getD n.toNat 0) := by
        rw [ByteArray.getElem?_lt' _ _ (show n.toNat < (⟨l.toArray⟩ : ByteArray).size from hn)]
        show some (l.toArray[n.toNat]) = _
        simp [List.getD_eq_getElem?_getD, hn]
      simp only [Instr.index, Sem.run_bind, asIntOf, Sem.run_pure, Result.andThen_ok, run_underlying ht, if_pos h0, q]) (by simp) h
  · exact h.elim
end
end Go.Aw
