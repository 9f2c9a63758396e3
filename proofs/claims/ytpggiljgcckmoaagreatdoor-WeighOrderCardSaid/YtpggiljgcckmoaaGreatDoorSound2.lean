/-
  The model's operations on memory meet the words of '..Ops'.
  No conditions: lemmas over any program.
-/
import Derived.Test.YtpggiljgcckmoaaGreatDoorSound
namespace Go.Aw
open Go Go.RowKit
variable [Laid]

section
variable {P : Program} {o : Oper} {base : Nat} {ι : List Ix} {S : Stab} {a : Act} {w : World} {st : St} {K : AV → Heap → Prop}

theorem s_idxA {t e : TypeId} {n : Nat} {x i : Operand} (hr : ROK base ι S a w st) (ho : o.op = .index t x i) (ht : P.underlying t = some (.array n e)) (hk : tOk P e = true)
    (h : iIdxA (tAgg P e) (P.cellsOf e) n (evalA st.fr x) (evalA st.fr i) fun v => K v st.h) : Meets P o base ι S a w st K := by
  have hx := hr.eval x
  have hi := hr.eval i
  unfold iIdxA at h
  split at h
  · rename_i cs k j e1 e2
    rw [e1, Rep] at hx
    rw [e2, Rep_v] at hi
    obtain ⟨vs, ev, r⟩ := hx
    obtain ⟨⟨h0, h1⟩, h⟩ := h
    obtain ⟨v, u, hrun, rv, kk⟩ := run_part (P := P) (w := w) hk r h
    refine meets_pure hr (u := u) (by
      simp only [execOp, ho, ev, hi]
      exact runv (by simp only [Instr.index, Sem.run_bind, asIntOf, Sem.run_pure, Result.andThen_ok, run_underlying ht]; rw [if_pos ⟨h0, h1⟩]; simp only [Sem.run_bind, run_sizeOf' hk, Result.andThen_ok]; exact hrun)) rv kk
  · exact h.elim

/-- What the two bounds of a cut are. -/
theorem optI_some {fr : Fr} (hE : ∀ x, Rep ι S w (evalA fr x) (a.eval x)) {x : Option Operand} {d n : Int} (h : optI (x.map (evalA fr)) d = some n) : (x = none ∧ n = d) ∨ ∃ y k, x = some y ∧ a.eval y = .int k n := by
  cases x with
  | none => left; simp [optI] at h; exact ⟨rfl, h.symm⟩
  | some y =>
    right
    have hy := hE y
    simp only [Option.map_some] at h
    cases he : evalA fr y with
    | v z =>
      rw [he] at h hy
      cases z <;> simp only [optI, Option.some.injEq, reduceCtorEq] at h
      rename_i k q
      subst h
      rw [Rep_v] at hy
      exact ⟨y, k, rfl, hy⟩
    | _ => rw [he] at h; simp [optI] at h

theorem run_bounds {isl : Bool} {len cap : Nat} {lo hi : Option Operand} {p q : Int} {fr : Fr} (hE : ∀ x, Rep ι S w (evalA fr x) (a.eval x)) (h1 : optI (lo.map (evalA fr)) 0 = some p) (h2 : optI (hi.map (evalA fr)) len = some q)
    (hp : 0 ≤ p) (hpq : p ≤ q) (hq : q ≤ cap) : (Instr.sliceBounds isl len cap (lo.map a.eval) (hi.map a.eval) none).run P w = .ok (p.toNat, q.toNat, cap) w := by
  have bound : ∀ (k : IntKind) (n : Int) (y : Nat) (c : BoundsCode), 0 ≤ n → n ≤ y → (Instr.sliceBound (.int k n) y c).run P w = .ok n.toNat w := fun k n y c g1 g2 => run_sliceBound w k n y c g1 g2
  unfold Instr.sliceBounds
  rcases optI_some hE h1 with ⟨rfl, rfl⟩ | ⟨yl, kl, rfl, el⟩ <;> rcases optI_some hE h2 with ⟨rfl, rfl⟩ | ⟨yh, kh, rfl, eh⟩
  · simp
  · simp [eh, bound kh q cap _ (by omega) hq]
  · simp [el, bound kl p len _ hp hpq]
  · simp only [Option.map_some, Sem.run_bind, Sem.run_pure, Result.andThen_ok, eh, el]
    rw [bound kh q cap _ (by omega) hq]
    simp only [Result.andThen_ok]
    rw [bound kl p q.toNat _ hp (by omega)]
    rfl

theorem s_slS {t : TypeId} {x : Operand} {lo hi : Option Operand} (hr : ROK base ι S a w st) (ho : o.op = .slice t x lo hi none) (ht : P.underlying t = some .string)
    (h : iSlS (evalA st.fr x) (lo.map (evalA st.fr)) (hi.map (evalA st.fr)) fun v => K v st.h) : Meets P o base ι S a w st K := by
  have hx := hr.eval x
  unfold iSlS at h
  split at h
  · rename_i l e
    rw [e, Rep_str] at hx
    split at h
    · rename_i p q e1 e2
      obtain ⟨⟨g0, g1, g2⟩, h⟩ := h
      have hb := run_bounds (P := P) (isl := false) (len := l.length) (cap := l.length) hr.eval e1 e2 g0 g1 g2
      refine meets_pure hr (u := .string ⟨((l.take q.toNat).drop p.toNat).toArray⟩) ?_ ?_ h
      · simp only [execOp, ho, hx.1, Option.map_none]
        refine runv ?_
        have hsz : (⟨l.toArray⟩ : ByteArray).size = l.length := rfl
        simp only [Instr.sliceAt, Sem.run_bind, run_underlying ht, Result.andThen_ok, Instr.slice, Option.isSome_none, Bool.false_eq_true, if_false, hsz, hb, Sem.run_pure]
        congr 2
        apply ByteArray.ext
        simp [ByteArray.data_extract]
        rw [List.drop_take]
      · simp only [Rep_str]
        refine ⟨trivial, ?_⟩
        have := hx.2
        simp; omega
    · exact h.elim
  · exact h.elim

theorem s_sl {t e : TypeId} {x : Operand} {lo hi : Option Operand} (hr : ROK base ι S a w st) (ho : o.op = .slice t x lo hi none) (ht : P.underlying t = some (.slice e)) (hk : tOk P e = true)
    (h : iSl (P.cellsOf e) (evalA st.fr x) (lo.map (evalA st.fr)) (hi.map (evalA st.fr)) fun v => K v st.h) : Meets P o base ι S a w st K := by
  have hx := (hr.eval x).unsb
  have run : ∀ (b : Option Addr) (len cap : Nat) (p q : Int), a.eval x = .slice b len cap → optI (lo.map (evalA st.fr)) 0 = some p → optI (hi.map (evalA st.fr)) len = some q → 0 ≤ p → p ≤ q → q ≤ cap →
      (execOp a.eval o).run P w = .ok (.value (.slice (if cap = p.toNat then b else b.map (·.add (p.toNat * P.cellsOf e))) (q.toNat - p.toNat) (cap - p.toNat))) w := by
    intro b len cap p q ex e1 e2 g0 g1 g2
    have hb := run_bounds (P := P) (isl := true) (len := len) (cap := cap) hr.eval e1 e2 g0 g1 g2
    simp only [execOp, ho, ex, Option.map_none]
    exact runv (by simp only [Instr.sliceAt, Sem.run_bind, run_underlying ht, Result.andThen_ok, Instr.slice, hb, run_sizeOf' hk, Sem.run_pure])
  unfold iSl at h
  split at h
  · rename_i sz rows ex
    rw [ex, Rep] at hx
    obtain ⟨b, cap, ev, c1, c2, c3⟩ := hx
    split at h
    · rename_i p q e1 e2
      obtain ⟨rfl, ⟨g0, g1, g2⟩, h⟩ := h
      refine meets_pure hr (run b _ cap p q ev e1 e2 g0 g1 (by omega)) ?_ h
      rw [Rep]
      have hl : ((rows.take q.toNat).drop p.toNat).length = q.toNat - p.toNat := by simp; omega
      refine ⟨_, _, by rw [hl], by omega, by omega, ?_⟩
      by_cases hem : (rows.take q.toNat).drop p.toNat = []
      · exact .inl hem
      · right
        have hlen : 0 < q.toNat - p.toNat := by rw [← hl]; exact List.length_pos_iff.2 hem
        rcases c3 with c3 | ⟨bb, off, eb, rr⟩
        · subst c3; simp at hem
        · subst eb
          rw [if_neg (by omega)]
          refine ⟨bb, off + p.toNat * P.cellsOf e, by simp [addr_add], RepR.mk fun i r er => ?_⟩
          have er' : rows[p.toNat + i]? = some r := by
            rw [List.getElem?_drop] at er
            rw [List.getElem?_take] at er
            split at er <;> first | exact er | cases er
          have := rr.get _ _ er'
          refine ⟨this.1, ?_⟩
          rw [Nat.add_assoc, ← Nat.add_mul]; exact this.2
    · exact h.elim
  · rename_i id off len sz ex
    rw [ex, Rep] at hx
    obtain ⟨bb, b, cap, n, ty, c1, ev, c2, c3, c4, c5, c6⟩ := hx
    split at h
    · rename_i p q e1 e2
      obtain ⟨rfl, ⟨g0, g1, g2⟩, h⟩ := h
      refine meets_pure hr (run b _ cap p q ev e1 e2 g0 g1 (by omega)) ?_ h
      rw [Rep]
      have hmul : p.toNat * P.cellsOf e + (cap - p.toNat) * P.cellsOf e = cap * P.cellsOf e := by rw [← Nat.add_mul]; congr 1; omega
      refine ⟨bb, _, _, n, ty, c1, by congr 1; omega, by omega, by omega, ?_, c5, by omega⟩
      by_cases hz : cap - p.toNat = 0
      · exact .inl hz
      · right
        rcases c4 with c4 | c4
        · omega
        · rw [if_neg (by omega), c4]; simp [addr_add]
    · exact h.elim
  · rename_i ex
    rw [ex, Rep] at hx
    obtain ⟨b, ev⟩ := hx
    split at h
    · rename_i p q e1 e2
      obtain ⟨⟨g0, g1⟩, h⟩ := h
      subst g0; subst g1
      refine meets_pure hr (run b 0 0 0 0 ev e1 (by simpa using e2) (by omega) (by omega) (by omega)) ?_ h
      rw [Rep]; exact ⟨_, rfl⟩
    · exact h.elim
  · exact h.elim

theorem s_slA {t e : TypeId} {n : Nat} {x : Operand} {lo hi : Option Operand} (hr : ROK base ι S a w st) (ho : o.op = .slice t x lo hi none) (ht : P.underlying t = some (.array n e)) (hk : tOk P e = true)
    (h : iSlA n (P.cellsOf e) (evalA st.fr x) (lo.map (evalA st.fr)) (hi.map (evalA st.fr)) st.h fun v => K v st.h) : Meets P o base ι S a w st K := by
  have hx := hr.eval x
  unfold iSlA at h
  split at h
  · rename_i id off ex
    rw [ex, Rep] at hx
    obtain ⟨b, c1, ev⟩ := hx
    split at h
    · rename_i p q blk e1 e2 eb
      obtain ⟨⟨hroom, g0, g1, g2, g3⟩, h⟩ := h
      have hb := run_bounds (P := P) (isl := false) (len := n) (cap := n) hr.eval e1 e2 g0 g1 g2
      obtain ⟨b', arr, fz, k1, k2, k3, k4, k5, k6, k7, k8, k9⟩ := hr.hp.live id blk eb
      rw [c1] at k1; cases k1
      refine meets_pure hr (u := .slice (some (if n = p.toNat then ⟨b, off, none⟩ else (⟨b, off, none⟩ : Addr).add (p.toNat * P.cellsOf e))) (q.toNat - p.toNat) (n - p.toNat)) ?_ ?_ h
      · simp only [execOp, ho, ev, Option.map_none]
        exact runv (by simp only [Instr.sliceAt, Sem.run_bind, run_underlying ht, Result.andThen_ok, Instr.sureAddr, Sem.run_pure, hb, run_sizeOf' hk])
      · rw [Rep]
        have hmul : p.toNat * P.cellsOf e + (n - p.toNat) * P.cellsOf e = n * P.cellsOf e := by rw [← Nat.add_mul]; congr 1; omega
        refine ⟨b, _, _, arr.size, blk.ty, c1, by congr 1; omega, by omega, by omega, ?_, by unfold World.shape?; rw [k3], by omega⟩
        by_cases hz : n - p.toNat = 0
        · exact .inl hz
        · right; rw [if_neg (by omega), addr_add]
    · exact h.elim
  · exact h.elim

theorem s_idxP {t e : TypeId} {x i : Operand} (hr : ROK base ι S a w st) (ho : o.op = .indexAddr t x i) (ht : P.underlying t = some (.slice e)) (hk : tOk P e = true)
    (h : iIdxP (P.cellsOf e) (evalA st.fr x) (evalA st.fr i) fun v => K v st.h) : Meets P o base ι S a w st K := by
  have hx := (hr.eval x).unsb
  have hi := hr.eval i
  have run : ∀ (b : Addr) (len cap : Nat) (k : IntKind) (j : Int), a.eval x = .slice (some b) len cap → a.eval i = .int k j → 0 ≤ j → j < len →
      (execOp a.eval o).run P w = .ok (.value (.pointer (some (b.add (j.toNat * P.cellsOf e))))) w := by
    intro b len cap k j ex ei g0 g1
    simp only [execOp, ho, ex, ei]
    refine runv ?_
    simp only [Instr.indexAt, Sem.run_bind, asIntOf, Sem.run_pure, Result.andThen_ok, run_underlying ht]
    rw [if_pos ⟨g0, g1⟩]
    simp only [Sem.run_bind, run_sizeOf' hk, Result.andThen_ok, Sem.run_pure]
  unfold iIdxP at h
  split at h
  · rename_i sz rows k j e1 e2
    rw [e1, Rep] at hx
    rw [e2, Rep_v] at hi
    obtain ⟨b, cap, ev, c1, c2, c3⟩ := hx
    obtain ⟨rfl, ⟨g0, g1⟩, h⟩ := h
    have hj : j.toNat < rows.length := by omega
    rcases c3 with c3 | ⟨bb, off, eb, rr⟩
    · subst c3; simp at hj
    · subst eb
      refine meets_pure hr (run _ _ cap k j ev hi g0 g1) ?_ h
      have er : rows[j.toNat]? = some (rows.getD j.toNat []) := by simp [List.getD_eq_getElem?_getD, hj]
      rw [Rep]
      exact ⟨bb, off + j.toNat * P.cellsOf e, by rw [addr_add], (rr.get _ _ er).2⟩
  · rename_i id off len sz k j e1 e2
    rw [e1, Rep] at hx
    rw [e2, Rep_v] at hi
    obtain ⟨bb, b, cap, n, ty, c1, ev, c2, c3, c4, c5, c6⟩ := hx
    obtain ⟨rfl, ⟨g0, g1⟩, h⟩ := h
    rcases c4 with c4 | c4
    · omega
    · subst c4
      refine meets_pure hr (run _ _ cap k j ev hi g0 g1) ?_ h
      rw [Rep]; exact ⟨bb, c1, by rw [addr_add]⟩
  · exact h.elim

theorem s_idxQ {t e : TypeId} {n : Nat} {x i : Operand} (hr : ROK base ι S a w st) (ho : o.op = .indexAddr t x i) (ht : P.underlying t = some (.array n e)) (hk : tOk P e = true)
    (h : iIdxQ n (P.cellsOf e) (evalA st.fr x) (evalA st.fr i) fun v => K v st.h) : Meets P o base ι S a w st K := by
  have hx := hr.eval x
  have hi := hr.eval i
  have run : ∀ (b : Addr) (k : IntKind) (j : Int), a.eval x = .pointer (some b) → a.eval i = .int k j → 0 ≤ j → j < n →
      (execOp a.eval o).run P w = .ok (.value (.pointer (some (b.add (j.toNat * P.cellsOf e))))) w := by
    intro b k j ex ei g0 g1
    simp only [execOp, ho, ex, ei]
    refine runv ?_
    simp only [Instr.indexAt, Sem.run_bind, asIntOf, Sem.run_pure, Result.andThen_ok, run_underlying ht, Instr.sureAddr]
    rw [if_pos ⟨g0, g1⟩]
    simp only [Sem.run_bind, run_sizeOf' hk, Result.andThen_ok, Sem.run_pure]
  unfold iIdxQ at h
  split at h
  · rename_i id off k j e1 e2
    rw [e1, Rep] at hx
    rw [e2, Rep_v] at hi
    obtain ⟨b, c1, ev⟩ := hx
    obtain ⟨⟨g0, g1⟩, h⟩ := h
    refine meets_pure hr (run _ k j ev hi g0 g1) ?_ h
    rw [Rep]; exact ⟨b, c1, by rw [addr_add]⟩
  · rename_i cs k j e1 e2
    rw [e1, Rep] at hx
    rw [e2, Rep_v] at hi
    obtain ⟨b, off, ev, r⟩ := hx
    obtain ⟨⟨g0, g1⟩, h⟩ := h
    refine meets_pure hr (run _ k j ev hi g0 g1) ?_ h
    rw [Rep]; exact ⟨b, _, by rw [addr_add], r.drop _⟩
  · exact h.elim

theorem s_fad {t : TypeId} {x : Operand} {i : Nat} {fs : Array Field} {f : Field} (hr : ROK base ι S a w st) (ho : o.op = .fieldAddr t x i) (ht : P.underlying t = some (.struct fs)) (hf : fs[i]? = some f)
    (hz : P.cellsOf f.type ≠ 0) (hk : tOk P f.type = true) (h : iFad f.offset (evalA st.fr x) fun v => K v st.h) : Meets P o base ι S a w st K := by
  have hx := hr.eval x
  have run : ∀ (b : Addr), a.eval x = .pointer (some b) → (execOp a.eval o).run P w = .ok (.value (.pointer (some (b.add f.offset)))) w := by
    intro b ex
    simp only [execOp, ho, ex]
    refine runv ?_
    simp only [Instr.fieldAt, Sem.run_bind, run_underlying ht, Result.andThen_ok, hf, Instr.sureAddr, Sem.run_pure, fieldPlace, run_sizeOf' hk, hz, if_false]
  unfold iFad at h
  split at h
  · rename_i cs e
    rw [e, Rep] at hx
    obtain ⟨b, off, ev, r⟩ := hx
    refine meets_pure hr (run _ ev) ?_ h
    rw [Rep]; exact ⟨b, _, by rw [addr_add], r.drop _⟩
  · rename_i id off e
    rw [e, Rep] at hx
    obtain ⟨b, c1, ev⟩ := hx
    refine meets_pure hr (run _ ev) ?_ h
    rw [Rep]; exact ⟨b, c1, by rw [addr_add]⟩
  · exact h.elim

theorem s_nil {x : Operand} (hr : ROK base ι S a w st) (ho : o.op = .nilCheck x) (h : iNil (evalA st.fr x) fun v => K v st.h) : Meets P o base ι S a w st K := by
  have hx := hr.eval x
  have hx' := hx
  unfold iNil at h
  split at h
  · rename_i e
    rw [e, Rep] at hx
    obtain ⟨b, off, ev, r⟩ := hx
    exact meets_pure hr (u := a.eval x) (by simp [execOp, ho, ev]) hx' h
  · rename_i e
    rw [e, Rep] at hx
    obtain ⟨b, c1, ev⟩ := hx
    exact meets_pure hr (u := a.eval x) (by simp [execOp, ho, ev]) hx' h
  · rename_i e
    rw [e, Rep] at hx
    obtain ⟨vs, us, ev, _⟩ := hx
    exact meets_pure hr (u := a.eval x) (by simp [execOp, ho, ev]) hx' h
  · exact h.elim

omit [Laid] in
theorem run_loadVar' {t : TypeId} {cs : List AV} {vs : List Value} {b off : Nat} {K : AV → Prop} (hk : tOk P t = true) (r : RepL ι S w cs vs) (hc : ∀ (i : Nat) (v : Value), vs[i]? = some v → w.cell? ⟨b, off + i, none⟩ = some v)
    (h : ldP (tAgg P t) (P.cellsOf t) cs K) : ∃ v u, (loadVar t ⟨b, off, none⟩).run P w = .ok u w ∧ Rep ι S w v u ∧ K v := by
  unfold loadVar
  simp only [Sem.run_bind, run_isAgg' hk, Result.andThen_ok]
  unfold ldP at h
  split at h
  · rename_i hg
    rw [hg]
    have hl := r.length
    have hrun := run_loadCells_list (P := P) (w := w) ⟨b, off, none⟩ (vs.take (P.cellsOf t)) (by
      intro j v e
      rw [addr_add]
      refine hc j v ?_
      rw [List.getElem?_take] at e
      split at e <;> first | exact e | cases e)
    have hlen : (vs.take (P.cellsOf t)).length = P.cellsOf t := by simp; omega
    rw [hlen] at hrun
    refine ⟨_, .agg (vs.take (P.cellsOf t)).toArray, ?_, ?_, h.2⟩
    · simp only [if_true, Sem.run_bind, run_sizeOf' hk, Result.andThen_ok, hrun, Sem.run_pure]
    · rw [Rep]; exact ⟨_, rfl, r.take _⟩
  · rename_i hg
    rw [hg]
    simp only [Bool.false_eq_true, if_false]
    split at h
    · rename_i c rest
      obtain ⟨v, ev, rv⟩ := r.get 0 c rfl
      have := hc 0 v ev
      exact ⟨c, v, by simp only [run_load]; rw [show (⟨b, off, none⟩ : Addr) = ⟨b, off + 0, none⟩ by rfl, this], rv, h⟩
    · exact h.elim

theorem s_load {t : TypeId} {x : Operand} (hr : ROK base ι S a w st) (ho : o.op = .load t x) (hk : tOk P t = true) (h : iLoad (tAgg P t) (P.cellsOf t) (evalA st.fr x) st.h fun v => K v st.h) : Meets P o base ι S a w st K := by
  have hx := hr.eval x
  unfold iLoad at h
  split at h
  · rename_i cs e
    rw [e, Rep] at hx
    obtain ⟨b, off, ev, r⟩ := hx
    obtain ⟨vs, rv, hc⟩ := r.vals
    obtain ⟨v, u, hrun, rv, k⟩ := run_loadVar' (P := P) hk rv hc h
    exact meets_pure hr (u := u) (by simp only [execOp, ho, ev]; exact runv (by simp only [Instr.loadAt, Instr.sureAddr, Sem.run_bind, Sem.run_pure, Result.andThen_ok, hrun])) rv k
  · rename_i id off e
    rw [e, Rep] at hx
    obtain ⟨b, c1, ev⟩ := hx
    split at h
    · rename_i blk eb
      obtain ⟨b', arr, fz, k1, k2, k3, k4, k5, k6, k7, k8, k9⟩ := hr.hp.live id blk eb
      rw [c1] at k1; cases k1
      have hcells : RepL ι S w blk.cells (arr.toList.take blk.cells.length) := by
        refine RepL.mk (by simp; omega) fun i c v e1 e2 => ?_
        obtain ⟨v', e3, r⟩ := k6 i c e1
        rw [List.getElem?_take] at e2
        split at e2
        · simp only [Array.getElem?_toList] at e2
          rw [e3] at e2; cases e2; exact r
        · cases e2
      obtain ⟨v, u, hrun, rv, k⟩ := run_loadVar' (P := P) (b := b) (off := off) hk (hcells.drop off) (by
        intro i v e1
        rw [cell_at k3]
        rw [List.getElem?_drop, List.getElem?_take] at e1
        split at e1
        · simpa using e1
        · cases e1) h
      exact meets_pure hr (u := u) (by simp only [execOp, ho, ev]; exact runv (by simp only [Instr.loadAt, Instr.sureAddr, Sem.run_bind, Sem.run_pure, Result.andThen_ok, hrun])) rv k
    · exact h.elim
  · exact h.elim

theorem s_store {t : TypeId} {x v : Operand} (hr : ROK base ι S a w st) (ho : o.op = .store t x v) (hk : tOk P t = true) (h : iStore (P.cellsOf t) (evalA st.fr x) (evalA st.fr v) st.h fun h' => K (.v undef) h') : Meets P o base ι S a w st K := by
  have hx := hr.eval x
  have hv := hr.eval v
  unfold iStore at h
  split at h
  · rename_i id off e
    rw [e, Rep] at hx
    obtain ⟨b, c1, ev⟩ := hx
    split at h
    · rename_i blk eb
      obtain ⟨⟨g1, g2, g3, g4⟩, h⟩ := h
      obtain ⟨vs, ecs, rv, one⟩ := Rep_vcells hv g4
      obtain ⟨w', hrun, hE, hH⟩ := run_storeCells (P := P) vs (vcells (evalA st.fr v)) w st.h hr.hp eb g1 c1 off 0 (by omega) rv one
      rw [Nat.add_zero] at hH
      refine meets_skip hr (w' := w') ?_ hE hH (by simp) h
      simp only [execOp, ho, ev]
      refine runu ?_
      have hl := rv.length
      simp only [Instr.storeAt, Instr.sureAddr, Sem.run_bind, Sem.run_pure, Result.andThen_ok, storeVar, run_sizeOf' hk, ecs]
      rw [if_neg (by simp; omega)]
      exact hrun
    · exact h.elim
  · exact h.elim

theorem s_new {t : TypeId} {x : AV} {u : Value} (hr : ROK base ι S a w st) (hrun : (execOp a.eval o).run P w = .ok (.value (.pointer (some ⟨w.heap.size, 0, none⟩))) (w.alloc (.cells u.cells t))) (r : Rep ι S w x u)
    (h : iNew t x st.h K) : Meets P o base ι S a w st K := by
  obtain ⟨g, h⟩ := h
  obtain ⟨vs, ecs, rv, one⟩ := Rep_vcells r g
  have hH := hr.hp.alloc t (vcells x) vs rv (more := []) (fz := (0, 0)) (by intro o _ h; omega)
  rw [List.append_nil, ← ecs] at hH
  refine meets_value hr hrun (Evo.alloc hr.hp.bas (fun b o => hr.hp.stb b o) _ _) ?_ hH (by simp) h
  rw [Rep]
  exact ⟨w.heap.size, by rw [List.getElem?_append_right (by rw [hr.hp.len]; exact Nat.le_refl _)]; simp [hr.hp.len], rfl⟩

theorem s_box {t : TypeId} {x : Operand} (hr : ROK base ι S a w st) (ho : o.op = .box t x) (h : iNew t (evalA st.fr x) st.h K) : Meets P o base ι S a w st K :=
  s_new hr (u := a.eval x) (by simp only [execOp, ho]; exact runv (by simp [Instr.box, newVar, newRow])) (hr.eval x) h
theorem s_alloc {t : TypeId} {z : AV} (hr : ROK base ι S a w st) (ho : o.op = .alloc t) (hz : zeroA P t = some z) (h : iNew t z st.h K) : Meets P o base ι S a w st K := by
  unfold zeroA at hz
  cases hi : P.info? t with
  | none => rw [hi] at hz; cases hz
  | some i =>
    rw [hi] at hz
    simp only [Option.bind_some, Option.map_eq_some_iff] at hz
    obtain ⟨u, hu, rfl⟩ := hz
    exact s_new hr (u := u) (by simp only [execOp, ho]; exact runv (by simp [Instr.alloc, zeroValue, run_info hi, hu, newVar, newRow])) (Rep_constAV ι S w u) h

theorem s_func {f : Fn} {xs ys : Array Operand} (hr : ROK base ι S a w st) (ho : o.op = .makeFunc f xs ys) (h : K (.fn f (xs.toList.map (evalA st.fr)) (ys.toList.map (evalA st.fr))) st.h) : Meets P o base ι S a w st K := by
  refine meets_pure hr (u := .func f (xs.map a.eval) (ys.map a.eval)) (by simp [execOp, ho, Instr.makeFunc]) ?_ h
  rw [Rep]
  have key : ∀ l : List Operand, RepL ι S w (l.map (evalA st.fr)) (l.map a.eval) := by
    intro l
    induction l with
    | nil => simp
    | cons x l ih => simpa using ⟨hr.eval x, ih⟩
  exact ⟨xs.toList.map a.eval, ys.toList.map a.eval, by congr 1 <;> (apply Array.ext'; simp), key _, key _⟩

theorem RepL.evals (hr : ROK base ι S a w st) : ∀ l : List Operand, RepL ι S w (l.map (evalA st.fr)) (l.map a.eval)
  | [] => by simp
  | x :: l => by simpa using ⟨hr.eval x, RepL.evals hr l⟩

omit [Laid] in
theorem exec_len {c : Call} (ho : o.op = .call c) (hc : c.callee = .builtin .len) {n : Nat} (hb : (Builtin.len_ c.argTypes o.type (c.args.map a.eval)).run P w = .ok (.int .i64 n) w) : (execOp a.eval o).run P w = .ok (.value (.int .i64 n)) w := by
  simp only [execOp, ho, resolve, hc, Sem.run_bind, Sem.run_pure, Result.andThen_ok, invoke, builtin, hb]

theorem s_lenS {c : Call} {t : TypeId} {x : Operand} (hr : ROK base ι S a w st) (ho : o.op = .call c) (hc : c.callee = .builtin .len) (hat : c.argTypes[0]? = some t) (hax : c.args[0]? = some x)
    (ht : P.underlying t = some .string) (h : iLenS (evalA st.fr x) fun v => K v st.h) : Meets P o base ι S a w st K := by
  have hx := hr.eval x
  have hax' : (c.args.map a.eval)[0]? = some (a.eval x) := by simp [hax]
  unfold iLenS at h
  split at h
  · rename_i l e
    rw [e, Rep_str] at hx
    refine meets_pure hr (exec_len ho hc (n := l.length) ?_) (by simp) (h hx.2)
    simp only [Builtin.len_, hat, hax', Sem.run_bind, run_underlying ht, Result.andThen_ok, hx.1, Sem.run_pure, goInt]
    rfl
  · exact h.elim

theorem s_len {c : Call} {t et : TypeId} {x : Operand} (hr : ROK base ι S a w st) (ho : o.op = .call c) (hc : c.callee = .builtin .len) (hat : c.argTypes[0]? = some t) (hax : c.args[0]? = some x)
    (ht : P.underlying t = some (.slice et)) (h : iLen (evalA st.fr x) fun v => K v st.h) : Meets P o base ι S a w st K := by
  have hx := (hr.eval x).unsb
  have hax' : (c.args.map a.eval)[0]? = some (a.eval x) := by simp [hax]
  unfold iLen at h
  split at h
  · rename_i sz rows e
    rw [e, Rep] at hx
    obtain ⟨b, cap, ev, c1, c2, c3⟩ := hx
    refine meets_pure hr (exec_len ho hc (n := rows.length) ?_) (by simp) (h (by omega))
    simp only [Builtin.len_, hat, hax', Sem.run_bind, run_underlying ht, Result.andThen_ok, ev, Sem.run_pure, goInt]
  · rename_i id off len sz e
    rw [e, Rep] at hx
    obtain ⟨bb, b, cap, n, ty, c1, ev, c2, c3, c4, c5, c6⟩ := hx
    refine meets_pure hr (exec_len ho hc (n := len) ?_) (by simp) (h (by omega))
    simp only [Builtin.len_, hat, hax', Sem.run_bind, run_underlying ht, Result.andThen_ok, ev, Sem.run_pure, goInt]
  · rename_i e
    rw [e, Rep] at hx
    obtain ⟨b, ev⟩ := hx
    refine meets_pure hr (exec_len ho hc (n := 0) ?_) (by simp) h
    simp only [Builtin.len_, hat, hax', Sem.run_bind, run_underlying ht, Result.andThen_ok, ev, Sem.run_pure, goInt]
  · exact h.elim

omit [Laid] in
theorem exec_bi {c : Call} {b : Builtin} {s : Sem Value} {u : Value} {w' : World} (ho : o.op = .call c) (hc : c.callee = .builtin b)
    (hb : ∀ cs, builtin b c.argTypes o.type cs (c.args.map a.eval) = (do pure (.value (← s)))) (hs : s.run P w = .ok u w') : (execOp a.eval o).run P w = .ok (.value u) w' := by
  simp only [execOp, ho, resolve, hc, Sem.run_bind, Sem.run_pure, Result.andThen_ok, invoke, hb, hs]

theorem s_min {c : Call} {x y : Operand} (hr : ROK base ι S a w st) (ho : o.op = .call c) (hc : c.callee = .builtin .min) (hax : c.args.toList = [x, y])
    (h : iMin (evalA st.fr x) (evalA st.fr y) fun v => K v st.h) : Meets P o base ι S a w st K := by
  have hx := hr.eval x
  have hy := hr.eval y
  unfold iMin at h
  split at h
  · rename_i k p k' q e1 e2
    rw [e1, Rep_v] at hx
    rw [e2, Rep_v] at hy
    obtain ⟨rfl, h⟩ := h
    have hargs : c.args.map a.eval = #[.int k p, .int k q] := by apply Array.ext'; simp [hax, hx, hy]
    exact meets_pure hr (exec_bi ho hc (fun _ => rfl) (by rw [hargs]; exact run_min_int2 w _ _ k k p q)) (by simp) h
  · exact h.elim
theorem s_max {c : Call} {x y : Operand} (hr : ROK base ι S a w st) (ho : o.op = .call c) (hc : c.callee = .builtin .max) (hax : c.args.toList = [x, y])
    (h : iMax (evalA st.fr x) (evalA st.fr y) fun v => K v st.h) : Meets P o base ι S a w st K := by
  have hx := hr.eval x
  have hy := hr.eval y
  unfold iMax at h
  split at h
  · rename_i k p k' q e1 e2
    rw [e1, Rep_v] at hx
    rw [e2, Rep_v] at hy
    obtain ⟨rfl, h⟩ := h
    have hargs : c.args.map a.eval = #[.int k p, .int k q] := by apply Array.ext'; simp [hax, hx, hy]
    exact meets_pure hr (exec_bi ho hc (fun _ => rfl) (by rw [hargs]; exact run_max_int2 w _ _ k k p q)) (by simp) h
  · exact h.elim

/-- A call: by what is known of the callee. -/
theorem s_call {c : Call} {x : Operand} {f : FuncId} {first cap : List AV} (hr : ROK base ι S a w st) (ho : o.op = .call c) (hc : c.callee = .value x) (hx : evalA st.fr x = .fn (.func f) first cap)
    (hf : (P.funcs[f]?).any (fun fn => fn.body.isSome && fn.name != "runtime.NumGoroutine") = true) (h : ACall P f (first ++ c.args.toList.map (evalA st.fr) ++ cap) st.h K) : Meets P o base ι S a w st K := by
  have hv := hr.eval x
  rw [hx, Rep] at hv
  obtain ⟨vs, us, ev, r1, r2⟩ := hv
  obtain ⟨fn, hfn, hb⟩ : ∃ fn, P.funcs[f]? = some fn ∧ (fn.body.isSome && fn.name != "runtime.NumGoroutine") = true := by
    cases hq : P.funcs[f]? with
    | none => rw [hq] at hf; cases hf
    | some fn => rw [hq] at hf; exact ⟨fn, rfl, hf⟩
  simp only [Bool.and_eq_true, bne_iff_ne, ne_eq] at hb
  have hargs : RepL ι S w (first ++ c.args.toList.map (evalA st.fr) ++ cap) (vs ++ c.args.toList.map a.eval ++ us) := (r1.append (RepL.evals hr _)).append r2
  have hrun : (execOp a.eval o).run P w = .ok (.enter f (vs ++ c.args.toList.map a.eval ++ us).toArray) w := by
    have e2 : (vs.toArray ++ c.args.map a.eval) ++ us.toArray = (vs ++ c.args.toList.map a.eval ++ us).toArray := by apply Array.ext'; simp
    have hne : (fn.name == "runtime.NumGoroutine") = false := by simpa using hb.2
    have hbn : fn.body.isNone = false := by cases hbb : fn.body <;> simp_all
    simp only [execOp, ho, resolve, hc, Sem.run_bind, ev, Deferred.ofValue, Sem.run_pure, Result.andThen_ok, invoke, e2, callFunc, run_program, hfn, hne, hbn, Bool.false_eq_true, if_false]
  intro Q
  unfold Oper.wp
  rw [hrun, Oper.upon_enter]
  refine (h base ι S w _ hargs hr.hp).mono ?_
  rintro e w' ⟨v, ι', S', r, h', rfl, hE, rv, hH, hl, k⟩
  refine ⟨ι', S', r, h', ?_, ?_, hl, k⟩
  · rw [hr.hp.len]; exact hE
  · have : ROK base ι' S' a w' ⟨st.n, st.fr, h'⟩ := ⟨hr.df, hr.sz, FrOK.evo hE (by rw [hr.hp.len]; exact Nat.le_refl _) hr.fr, hH⟩
    exact this.put o.dst rv
end
end Go.Aw
