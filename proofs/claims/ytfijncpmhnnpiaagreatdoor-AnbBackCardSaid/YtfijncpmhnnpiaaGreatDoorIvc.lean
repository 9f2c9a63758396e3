/-
  A piece of code meets the condition that 'ivc' makes of it; a function's body gives a contract.
  No conditions: lemmas over any program.
-/
import Derived.Test.YtfijncpmhnnpiaaGreatDoorL1
set_option linter.unusedVariables false
set_option linter.unusedSimpArgs false
namespace Go.Aw
open Go Go.RowKit
variable [Laid]

section
variable {P : Program} {o : Oper} {base : Nat} {ι : List Ix} {S : Stab} {a : Act} {w : World} {st : St} {K : AV → Heap → Prop}

theorem s_eqA {op : BinOp} {neg : Bool} {t yt : TypeId} {x y : Operand} {ks : List Nat} (hr : ROK base ι S a w st) (ho : o.op = .binOp op t x y yt) (hop : op = (if neg then .neq else .eql)) (hg : P.eqGuardType P.depth t = false)
    (hagg : tAgg P t = true) (hks : flatK P 8 t = some ks) (h : iEqA neg ks (evalA st.fr x) (evalA st.fr y) fun v => K v st.h) : Meets P o base ι S a w st K := by
  have hx := hr.eval x
  have hy := hr.eval y
  unfold iEqA at h
  split at h
  · rename_i xs ys e1 e2
    rw [e1, Rep] at hx
    rw [e2, Rep] at hy
    obtain ⟨vs, ex, rx⟩ := hx
    obtain ⟨us, ey, ry⟩ := hy
    split at h
    · rename_i b eb
      have key := eq_run (P := P) (w := w) 8 t ks hks 10000 (by omega) xs ys vs us b rx ry eb
      simp only [ofCells, hagg, if_true] at key
      have hgu : (eqGuard op t x y (.agg vs.toArray) (.agg us.toArray)).run P w = .ok () w := run_eqGuard_agg w op t x y _ _ hg
      refine meets_pure hr (u := .bool (if neg then !b else b)) ?_ (by simp) h
      simp only [execOp, ho, ex, ey]
      refine runv ?_
      rw [Sem.run_bind, hgu]
      simp only [Result.andThen_ok]
      cases neg with
      | true => subst hop; simp only [if_true, run_neq_struct, key, Result.andThen_ok]
      | false => subst hop; simp only [Bool.false_eq_true, if_false, run_eql_struct, key, Result.andThen_ok]
    · exact h.elim
  · exact h.elim

omit [Laid] in
theorem req_iff {b : Bool} {X : Prop} (h : req b X) : b = true ∧ X := by
  cases b with
  | true => exact ⟨rfl, h⟩
  | false => exact h.elim

/-- **Each operation.** -/
theorem sound_step {own : Bool} (hr : ROK base ι S a w st) (h : stepOp P own (evalA st.fr) st.h o.op K) : Meets P o base ι S a w st K := by
  generalize ho : o.op = op at h
  unfold stepOp at h
  split at h
  · exact s_move hr (.inl ho) h
  · exact s_move hr (.inr ho) h
  · exact s_pick hr ho h
  · rename_i bop t x y yt
    split at h
    · rename_i hagg
      split at h
      · obtain ⟨hg, h⟩ := req_iff h
        have hg : P.eqGuardType P.depth t = false := by simpa using hg
        split at h
        · rename_i ks hks; exact s_eqA (neg := false) hr ho rfl hg hagg hks h
        · exact h.elim
      · obtain ⟨hg, h⟩ := req_iff h
        have hg : P.eqGuardType P.depth t = false := by simpa using hg
        split at h
        · rename_i ks hks; exact s_eqA (neg := true) hr ho rfl hg hagg hks h
        · exact h.elim
      · exact h.elim
    · split at h
      · rename_i ht; exact s_binB hr ho ht h
      · exact s_bin hr ho h
      · exact s_bin hr ho h
      · rename_i ht
        split at h
        · exact s_nilC (neg := false) hr ho ht h
        · exact s_nilC (neg := true) hr ho ht h
        · exact h.elim
      · exact h.elim
  · exact s_not hr ho h
  · exact s_neg hr ho h
  · split at h
    · exact s_cpl hr ho h
    · exact h.elim
  · split at h
    · rename_i hs hd; exact s_conv hr ho hs hd h
    · rename_i hs hd
      unfold iStrS at h
      split at h
      · rename_i e; exact s_convS hr ho hs hd ⟨_, e, h⟩
      · exact h.elim
    · rename_i hs hd; exact s_toBytes hr ho hs hd (req_iff h).1 (req_iff h).2
    · rename_i hs hd; exact s_ofBytes hr ho hs hd (req_iff h).1 (req_iff h).2
    · exact h.elim
  · exact s_extr hr ho h
  · split at h
    · rename_i ht
      split at h
      · rename_i hf; exact s_field hr ho ht hf (req_iff h).1 (req_iff h).2
      · exact h.elim
    · exact h.elim
  · split at h
    · rename_i ht; exact s_idxS hr ho ht h
    · rename_i ht; exact s_idxA hr ho ht (req_iff h).1 (req_iff h).2
    · exact h.elim
  · split at h
    · rename_i ht; exact s_slS hr ho ht h
    · rename_i ht; exact s_sl hr ho ht (req_iff h).1 (req_iff h).2
    · rename_i ht; exact s_slA hr ho ht (req_iff h).1 (req_iff h).2
    · exact h.elim
  · split at h
    · rename_i ht; exact s_idxP hr ho ht (req_iff h).1 (req_iff h).2
    · rename_i ht; exact s_idxQ hr ho ht (req_iff h).1 (req_iff h).2
    · exact h.elim
  · split at h
    · rename_i ht
      split at h
      · rename_i hf
        obtain ⟨hq, h⟩ := req_iff h
        simp only [Bool.and_eq_true, bne_iff_ne, ne_eq] at hq
        exact s_fad hr ho ht hf hq.1 hq.2 h
      · exact h.elim
    · exact h.elim
  · exact s_nilF hr ho h
  · exact s_mkI hr ho (req_iff h).1 (req_iff h).2
  · exact s_asI hr ho h
  · exact s_load hr ho (req_iff h).1 (req_iff h).2
  · exact s_store hr ho (req_iff h).1 (req_iff h).2
  · split at h
    · rename_i hz; exact s_alloc hr ho hz h
    · exact h.elim
  · exact s_box hr ho h
  · split at h
    · rename_i ht hz
      obtain ⟨hq, h⟩ := req_iff h
      simp only [Bool.and_eq_true] at hq
      exact s_buildS hr ho ht hz hq.1 hq.2 h
    · rename_i ht hz; exact s_buildA hr ho ht hz (req_iff h).1 (req_iff h).2
    · exact h.elim
  · split at h
    · rename_i ht
      split at h
      · rename_i hz
        cases own with
        | true => exact s_mkSlP hr ho ht hz (req_iff h).1 (req_iff h).2
        | false => exact s_mkSl hr ho ht hz (req_iff h).1 (req_iff h).2
      · exact h.elim
    · exact h.elim
  · split at h
    · rename_i ht
      split at h
      · rename_i hz; exact s_make hr ho ht hz (req_iff h).1 (req_iff h).2
      · exact h.elim
    · exact h.elim
  · exact s_func hr ho h
  · rename_i c
    split at h
    · rename_i hc
      split at h
      · rename_i hat hax
        split at h
        · rename_i ht; exact s_lenS hr ho hc hat hax ht h
        · rename_i ht; exact s_len hr ho hc hat hax ht h
        · exact h.elim
      · exact h.elim
    · rename_i hc
      split at h
      · rename_i hax; exact s_min hr ho hc hax h
      · exact h.elim
    · rename_i hc
      split at h
      · rename_i hax; exact s_max hr ho hc hax h
      · rename_i hax; exact s_max3 hr ho hc hax h
      · exact h.elim
    · rename_i hc
      split at h
      · rename_i hat hax
        split at h
        · rename_i ht htx; exact s_app hr ho hc hat hax ht htx (req_iff h).1 (req_iff h).2
        · rename_i ht htx
          obtain ⟨hq, h⟩ := req_iff h
          simp only [Bool.and_eq_true, beq_iff_eq] at hq
          exact s_appS hr ho hc hat hax ht htx hq.1 hq.2 h
        · exact h.elim
      · exact h.elim
    · rename_i hc
      unfold iCall at h
      split at h
      · rename_i hx; exact s_call hr ho hc hx h.1 h.2
      · exact h.elim
    · rename_i hc; exact s_inv hr ho hc h
    · exact h.elim
  · exact h.elim
end

/-! ### Operations in a row -/
omit [Laid] in
theorem getF_set {n : Nat} {fr : Fr} {d : Option Tmp} {x : AV} {t : Nat} (hd : ∀ e, d = some e → e ≠ t) : getF (setFr n fr d x) t = getF fr t := by
  unfold setFr
  split
  · rename_i e
    split
    · rw [getF_put, if_neg (hd e rfl)]
    · rfl
  · rfl

theorem yielded_of {ops : Array Oper} {base : Nat} {ι : List Ix} {S : Stab} {a : Act} {w : World} {st : St} (hr : ROK base ι S a w st) {j d : Nat} (h1 : dstOf ops j = some d) :
    (∀ b, getF st.fr d = .v (.bool b) → yielded ops a.tmps j = some b) ∧ (getF st.fr d = .v undef → yielded ops a.tmps j = none) := by
  have r := hr.get d
  unfold dstOf at h1
  unfold yielded
  rw [h1]
  simp only [Option.bind_some]
  constructor
  · intro b e
    rw [e, Rep_v, Array.getD_eq_getD_getElem?] at r
    cases hv : a.tmps[d]? with
    | none => rw [hv] at r; cases r
    | some v => rw [hv] at r; simp only [Option.getD_some] at r; subst r; rfl
  · intro e
    rw [e, Rep_v, Array.getD_eq_getD_getElem?] at r
    cases hv : a.tmps[d]? with
    | none => rfl
    | some v => rw [hv] at r; simp only [Option.getD_some] at r; subst r; rfl

omit [Laid] in
theorem wp_mono2 {P : Program} {o : Oper} {a : Act} {w : World} {K K' : Act → World → Prop} {Q Q' : Exit → Act → World → Prop} (h1 : ∀ a w, K a w → K' a w) (h2 : ∀ e a w, Q e a w → Q' e a w) (h : o.wp P a w K Q) : o.wp P a w K' Q' := by
  unfold Oper.wp at *
  generalize (execOp a.eval o).run P w = r at *
  unfold Oper.upon at *
  split at h
  · exact h1 _ _ h
  · exact h1 _ _ h
  · exact h1 _ _ h
  · exact h.mono fun e w' k => by
      cases e with
      | returned v => exact h1 _ _ k
      | panicked ch => exact h2 _ _ _ k
      | outgrown => obtain ⟨a0, w0, k⟩ := k; exact ⟨a0, w0, h2 _ _ _ k⟩
  · exact h.mono fun v w' k => h1 _ _ k
  · exact h2 _ _ _ h
  · exact h.elim

omit [Laid] in
theorem wpOps_mono {P : Program} {ops : Array Oper} {Q Q' : Exit → Act → World → Prop} (hq : ∀ e a w, Q e a w → Q' e a w) : ∀ (l : List Nat) (a : Act) (w : World), wpOps P ops Q l a w → wpOps P ops Q' l a w
  | [], a, w, h => hq _ _ _ h
  | i :: l, a, w, h => by
    simp only [wpOps] at *
    cases ho : ops[i]? with
    | none => rw [ho] at h; exact wpOps_mono hq l a w h
    | some o =>
      rw [ho] at h
      simp only at *
      split
      · rename_i hw
        rw [if_pos hw] at h
        rcases h with h | ⟨h, a0, w0, k⟩
        · exact .inl (wp_mono2 (fun a w => wpOps_mono hq l a w) hq h)
        · exact .inr ⟨h, a0, w0, hq _ _ _ k⟩
      · rename_i hw
        rw [if_neg hw] at h
        exact wpOps_mono hq l _ w h


def nx (s : List AV) (k : Nat) : AV := s.getD k .any
def valsF (fr : Fr) (l : List Nat) : List AV := l.map (getF fr)
def putV (fr : Fr) : List Nat → List AV → Nat → Fr
  | [], _, _ => fr
  | t :: ts, s, k => putV (putF fr t (nx s k)) ts s (k + 1)
/-- A place to which several ways lead. -/
def iLet (k : (List AV → Heap → Prop) → Prop) (f : List AV → Heap → Prop) : Prop := k f
/-- On to such a place: some slots are as they were, of others the values are handed on. -/
def jmp (cs ms : List Nat) (fr fr' : Fr) (h' : Heap) (J : List AV → Heap → Prop) : Prop :=
  match cs with
  | [] => J (valsF fr' ms) h'
  | c :: cs => valsF fr' (c :: cs) = valsF fr (c :: cs) ∧ J (valsF fr' ms) h'
omit [Laid] in
theorem jmp_iff {cs ms : List Nat} {fr fr' : Fr} {h' : Heap} {J : List AV → Heap → Prop} (h : jmp cs ms fr fr' h' J) : valsF fr' cs = valsF fr cs ∧ J (valsF fr' ms) h' := by
  cases cs with
  | nil => exact ⟨rfl, h⟩
  | cons c cs => exact h
/-- The frame there. -/
def join (cs ms : List Nat) (fr : Fr) (s : List AV) : Fr := putV (normF cs fr) ms s 0

/-- A statement's operations, in pieces: one alone; or those that one guard lets by, behind which ways meet again. -/
inductive Seg where
  | op (i : Nat) (own : Bool)
  | grp (j : Nat) (want : Bool) (l : List (Nat × Bool)) (cs ms : List Nat)
def Seg.ix : Seg → List Nat
  | .op i _ => [i]
  | .grp _ _ l _ _ => l.map (·.1)

section
variable (P : Program) (ops : Array Oper)
def stepL : List (Nat × Bool) → St → (St → Prop) → Prop
  | [], st, K => K st
  | (i, own) :: r, st, K => match ops[i]? with
    | some o => stepOp P own (evalA st.fr) st.h o.op fun v h => stepL r (setS st o.dst v h) K
    | none => False
def noL : List (Nat × Bool) → St → St
  | [], st => st
  | (i, _) :: r, st => match ops[i]? with
    | some o => noL r (setS st o.dst (.v undef) st.h)
    | none => noL r st
def stepSegs : List Seg → St → (St → Prop) → Prop
  | [], st, K => K st
  | .op i own :: r, st, K => (match ops[i]? with
    | some o => stepOp P own (evalA st.fr) st.h o.op fun v h => stepSegs r (setS st o.dst v h) K
    | none => False)
  | .grp j want l cs ms :: r, st, K => (match dstOf ops j with
    | some d => iLet (fun J => iGuard (getF st.fr d) want (stepL P ops l ⟨st.n, putF st.fr d (.v (.bool want)), st.h⟩ fun st' => jmp cs ms st.fr st'.fr st'.h J)
          (jmp cs ms st.fr (noL ops l ⟨st.n, putF st.fr d (negA want (getF st.fr d)), st.h⟩).fr st.h J)) fun s h => stepSegs r ⟨st.n, join cs ms st.fr s, h⟩ K
    | none => False)
/-- The pieces are the whole statement, and the guards are those that stand. -/
def segOK : Seg → Bool
  | .op i _ => match ops[i]? with | some o => o.guard.isNone | none => false
  | .grp j want l _ _ => match dstOf ops j with
    | some d => l.all (fun p => match ops[p.1]? with | some o => o.guard == some (j, want) | none => false) && (l.dropLast).all (fun p => match ops[p.1]? with | some o => o.dst != some d | none => false)
    | none => false
def segsOK (l : List Seg) : Bool := l.all (segOK ops) && (l.map Seg.ix).flatten == List.range ops.size
end

omit [Laid] in
theorem noL_h (ops : Array Oper) : ∀ (l : List (Nat × Bool)) (st : St), (noL ops l st).h = st.h ∧ (noL ops l st).n = st.n
  | [], st => ⟨rfl, rfl⟩
  | (i, own) :: l, st => by
    unfold noL
    split
    · exact noL_h ops l _
    · exact noL_h ops l _

omit [Laid] in
theorem FrOK.putV {ι : List Ix} {S : Stab} {w : World} {tmps : Array Value} : ∀ (ms : List Nat) (fr : Fr) (s : List AV) (k : Nat), FrOK ι S w fr tmps → (∀ i t, ms[i]? = some t → Rep ι S w (nx s (k + i)) (tmps.getD t undef)) → FrOK ι S w (Aw.putV fr ms s k) tmps
  | [], fr, s, k, h, _ => h
  | t :: ts, fr, s, k, h, hs => by
    rw [Aw.putV]
    refine FrOK.putV ts _ s (k + 1) (FrOK.say h (by simpa using hs 0 t rfl)) fun i u e => ?_
    have := hs (i + 1) u (by simpa using e)
    rw [show k + 1 + i = k + (i + 1) by omega]; exact this
omit [Laid] in
theorem valsF_get {fr fr' : Fr} : ∀ {cs : List Nat}, valsF fr' cs = valsF fr cs → ∀ t ∈ cs, getF fr' t = getF fr t
  | [], _, _, h => by cases h
  | c :: cs, e, t, h => by
    simp only [valsF, List.map_cons, List.cons.injEq] at e
    rcases List.mem_cons.1 h with rfl | h
    · exact e.1
    · exact valsF_get (cs := cs) e.2 t h
omit [Laid] in
theorem getF_norm_mem : ∀ (keep : List Nat) (fr : Fr) (t : Nat), getF (normF keep fr) t = .any ∨ (t ∈ keep ∧ getF (normF keep fr) t = getF fr t)
  | [], fr, t => .inl rfl
  | k :: r, fr, t => by
    simp only [normF, List.map_cons, getF]
    split
    · rename_i h; subst h; exact .inr ⟨List.mem_cons_self .., rfl⟩
    · rcases getF_norm_mem r fr t with q | ⟨q1, q2⟩
      · exact .inl q
      · exact .inr ⟨List.mem_cons_of_mem _ q1, q2⟩
omit [Laid] in
/-- The slots that are as they were. -/
theorem FrOK.keep {ι : List Ix} {S : Stab} {w : World} {tmps : Array Value} {fr fr' : Fr} {cs : List Nat} (h : FrOK ι S w fr' tmps) (e : valsF fr' cs = valsF fr cs) : FrOK ι S w (normF cs fr) tmps := by
  intro t
  rcases getF_norm_mem cs fr t with q | ⟨q1, q2⟩
  · rw [q]; simp
  · rw [q2, ← valsF_get e t q1]; exact h t
omit [Laid] in
theorem nx_vals (fr : Fr) (ms : List Nat) (i t : Nat) (e : ms[i]? = some t) : nx (valsF fr ms) i = getF fr t := by
  unfold nx valsF
  rw [List.getD_eq_getElem?_getD, List.getElem?_map, e]; rfl
omit [Laid] in
theorem FrOK.join {ι : List Ix} {S : Stab} {w : World} {tmps : Array Value} {fr fr' : Fr} {cs ms : List Nat} (h : FrOK ι S w fr' tmps) (e : valsF fr' cs = valsF fr cs) : FrOK ι S w (Aw.join cs ms fr (valsF fr' ms)) tmps :=
  FrOK.putV ms _ _ 0 (h.keep e) fun i t q => by rw [Nat.zero_add, nx_vals fr' ms i t q]; exact h t

section
variable {P : Program} {ops : Array Oper} {m : Nat} {Q : Exit → St → Prop}

/-- One operation that is carried out, and then the others. -/
theorem wpOps_yes {own : Bool} {i : Nat} {o : Oper} {l : List Nat} {K : St → Prop} (ho : ops[i]? = some o) {base : Nat} {ι : List Ix} {S : Stab} {a : Act} {w : World} {st : St} (hm : m ≤ st.h.length) (hr : ROK base ι S a w st)
    (hw : Region.wanted o (yielded ops a.tmps) = true) {K' : AV → Heap → Prop} (h : stepOp P own (evalA st.fr) st.h o.op K')
    (next : ∀ v h' ι' S' a' w', K' v h' → m ≤ h'.length → ROK base ι' S' a' w' (setS st o.dst v h') → wpOps P ops (Post m base ι' S' w' (thenQ K Q)) l a' w') :
    wpOps P ops (Post m base ι S w (thenQ K Q)) (i :: l) a w := by
  simp only [wpOps, ho]
  rw [if_pos hw]
  left
  have := sound_step (P := P) (o := o) (a := a) hr h (Post m base ι S w (thenQ K Q))
  refine wp_mono2 (fun a' w' k => ?_) (fun _ _ _ k => k) this
  obtain ⟨ι', S', v, h2, hE, hR, hl, hk⟩ := k
  refine wpOps_mono (fun e a w k => ?_) l a' w' (next v h2 ι' S' a' w' hk (by omega) hR)
  exact Post.trans (hE.mono (by rw [hr.hp.len]; exact hm) (Nat.le_refl _)) k
theorem wpOps_no {i : Nat} {o : Oper} {l : List Nat} {K : St → Prop} (ho : ops[i]? = some o) {base : Nat} {ι : List Ix} {S : Stab} {a : Act} {w : World} {st : St} (hr : ROK base ι S a w st)
    (hw : Region.wanted o (yielded ops a.tmps) = false) (next : ROK base ι S (a.put o.dst undef) w (setS st o.dst (.v undef) st.h) → wpOps P ops (Post m base ι S w (thenQ K Q)) l (a.put o.dst undef) w) :
    wpOps P ops (Post m base ι S w (thenQ K Q)) (i :: l) a w := by
  simp only [wpOps, ho]
  rw [hw]
  simp only [Bool.false_eq_true, if_false]
  exact next (hr.put (x := .v undef) (v := undef) o.dst (by simp))

omit [Laid] in
theorem wanted_bool {o : Oper} {j : Nat} {want : Bool} {tmps : Array Value} (hg : o.guard = some (j, want)) : Region.wanted o (yielded ops tmps) = (yielded ops tmps j == some want) := by simp [Region.wanted, hg]

omit [Laid] in
theorem getF_setS {st : St} {d : Option Tmp} {x : AV} {h : Heap} {t : Nat} (hd : d ≠ some t) : getF (setS st d x h).fr t = getF st.fr t := by
  unfold setS
  exact getF_set fun e he q => hd (by rw [he, q])

/-- What a guard lets by. -/
theorem sound_L {j d : Nat} {want : Bool} (hd : dstOf ops j = some d) {K : St → Prop} {rest : List Nat} : ∀ (l : List (Nat × Bool)) (base : Nat) (ι : List Ix) (S : Stab) (a : Act) (w : World) (st : St) (K' : St → Prop),
    l.all (fun p => match ops[p.1]? with | some o => o.guard == some (j, want) | none => false) = true → (l.dropLast).all (fun p => match ops[p.1]? with | some o => o.dst != some d | none => false) = true →
    m ≤ st.h.length → ROK base ι S a w st → (l ≠ [] → getF st.fr d = .v (.bool want)) → stepL P ops l st K' →
    (∀ st' ι' S' a' w', K' st' → m ≤ st'.h.length → st'.n = st.n → ROK base ι' S' a' w' st' → wpOps P ops (Post m base ι' S' w' (thenQ K Q)) rest a' w') →
    wpOps P ops (Post m base ι S w (thenQ K Q)) (l.map (·.1) ++ rest) a w
  | [], base, ι, S, a, w, st, K', _, _, hm, hr, _, h, next => next st ι S a w h hm rfl hr
  | (i, own) :: l, base, ι, S, a, w, st, K', hgs, hds, hm, hr, hc, h, next => by
    simp only [List.all_cons, Bool.and_eq_true] at hgs
    obtain ⟨hg, hgs⟩ := hgs
    simp only [stepL] at h
    cases ho : ops[i]? with
    | none => rw [ho] at h; exact h.elim
    | some o =>
      simp only [ho, beq_iff_eq] at hg h
      simp only [List.map_cons, List.cons_append]
      have hy := (yielded_of hr hd).1 want (hc (by simp))
      refine wpOps_yes ho hm hr (by rw [wanted_bool hg, hy]; simp) h fun v h' ι' S' a' w' k hm' hr' => ?_
      refine sound_L hd l base ι' S' a' w' _ K' hgs ?_ hm' hr' (fun hne => ?_) k (fun st' ι2 S2 a2 w2 k2 m2 n2 r2 => next st' ι2 S2 a2 w2 k2 m2 (by rw [n2]; rfl) r2)
      · cases l with
        | nil => rfl
        | cons p l => simp only [List.dropLast_cons_cons, List.all_cons, Bool.and_eq_true] at hds; exact hds.2
      · cases l with
        | nil => exact absurd rfl hne
        | cons p l =>
          simp only [List.dropLast_cons_cons, List.all_cons, Bool.and_eq_true, ho, bne_iff_ne, ne_eq] at hds
          rw [getF_setS hds.1]; exact hc (by simp)
/-- What it doesn't. -/
theorem sound_noL {j d : Nat} {want : Bool} (hd : dstOf ops j = some d) {K : St → Prop} {rest : List Nat} : ∀ (l : List (Nat × Bool)) (base : Nat) (ι : List Ix) (S : Stab) (a : Act) (w : World) (st : St),
    l.all (fun p => match ops[p.1]? with | some o => o.guard == some (j, want) | none => false) = true → (l.dropLast).all (fun p => match ops[p.1]? with | some o => o.dst != some d | none => false) = true →
    ROK base ι S a w st → (l ≠ [] → getF st.fr d = .v (.bool (!want)) ∨ getF st.fr d = .v undef) →
    (∀ a', ROK base ι S a' w (noL ops l st) → wpOps P ops (Post m base ι S w (thenQ K Q)) rest a' w) →
    wpOps P ops (Post m base ι S w (thenQ K Q)) (l.map (·.1) ++ rest) a w
  | [], base, ι, S, a, w, st, _, _, hr, _, next => next a hr
  | (i, own) :: l, base, ι, S, a, w, st, hgs, hds, hr, hc, next => by
    simp only [List.all_cons, Bool.and_eq_true] at hgs
    obtain ⟨hg, hgs⟩ := hgs
    simp only [noL] at next
    cases ho : ops[i]? with
    | none => simp only [ho] at hg; cases hg
    | some o =>
      simp only [ho, beq_iff_eq] at hg next
      simp only [List.map_cons, List.cons_append]
      have hw : Region.wanted o (yielded ops a.tmps) = false := by
        rw [wanted_bool hg]
        rcases hc (by simp) with q | q
        · rw [(yielded_of hr hd).1 _ q]; cases want <;> rfl
        · rw [(yielded_of hr hd).2 q]; rfl
      refine wpOps_no ho hr hw fun hr' => ?_
      refine sound_noL hd l base ι S _ w _ hgs ?_ hr' (fun hne => ?_) next
      · cases l with
        | nil => rfl
        | cons p l => simp only [List.dropLast_cons_cons, List.all_cons, Bool.and_eq_true] at hds; exact hds.2
      · cases l with
        | nil => exact absurd rfl hne
        | cons p l =>
          simp only [List.dropLast_cons_cons, List.all_cons, Bool.and_eq_true, ho, bne_iff_ne, ne_eq] at hds
          rw [getF_setS hds.1]; exact hc (by simp)

theorem sound_segs {K : St → Prop} : ∀ (l : List Seg) (base : Nat) (ι : List Ix) (S : Stab) (a : Act) (w : World) (st : St), l.all (segOK ops) = true → m ≤ st.h.length → ROK base ι S a w st → stepSegs P ops l st K →
    wpOps P ops (Post m base ι S w (thenQ K Q)) (l.map Seg.ix).flatten a w
  | [], base, ι, S, a, w, st, _, hm, hr, h => ⟨ι, S, st, Evo.refl _ _ _ _ _, hm, hr, h⟩
  | .op i own :: r, base, ι, S, a, w, st, hok, hm, hr, h => by
    simp only [List.all_cons, Bool.and_eq_true] at hok
    obtain ⟨hg, hok⟩ := hok
    simp only [stepSegs] at h
    simp only [List.map_cons, List.flatten_cons, Seg.ix, List.singleton_append]
    cases ho : ops[i]? with
    | none => rw [ho] at h; exact h.elim
    | some o =>
      simp only [ho] at h
      simp only [segOK, ho, Option.isNone_iff_eq_none] at hg
      exact wpOps_yes ho hm hr (by simp [Region.wanted, hg]) h fun v h' ι' S' a' w' k hm' hr' => sound_segs r base ι' S' a' w' _ hok hm' hr' k
  | .grp j want l cs ms :: r, base, ι, S, a, w, st, hok, hm, hr, h => by
    simp only [List.all_cons, Bool.and_eq_true] at hok
    obtain ⟨hg, hok⟩ := hok
    simp only [stepSegs] at h
    simp only [List.map_cons, List.flatten_cons, Seg.ix]
    cases hd : dstOf ops j with
    | none => rw [hd] at h; exact h.elim
    | some d =>
      simp only [hd] at h
      simp only [segOK, hd, Bool.and_eq_true] at hg
      unfold iLet at h
      have after : ∀ {st' : St} {ι' : List Ix} {S' : Stab} {a' : Act} {w' : World}, st'.n = st.n → jmp cs ms st.fr st'.fr st'.h (fun s h => stepSegs P ops r ⟨st.n, join cs ms st.fr s, h⟩ K) → m ≤ st'.h.length → ROK base ι' S' a' w' st' →
          wpOps P ops (Post m base ι' S' w' (thenQ K Q)) (r.map Seg.ix).flatten a' w' := by
        intro st' ι' S' a' w' hn q hm' hr'
        obtain ⟨e1, k⟩ := jmp_iff q
        exact sound_segs r base ι' S' a' w' ⟨st.n, join cs ms st.fr (valsF st'.fr ms), st'.h⟩ hok hm' ⟨hr'.df, by rw [← hn]; exact hr'.sz, hr'.fr.join e1, hr'.hp⟩ k
      have rv := hr.get d
      rcases h with ⟨t, ht0, g1, g2⟩ | ⟨hu, g2⟩
      · rw [ht0] at rv
        by_cases ht : t = want
        · subst ht
          have hr2 : ROK base ι S a w ⟨st.n, putF st.fr d (.v (.bool t)), st.h⟩ := ⟨hr.df, hr.sz, FrOK.say hr.fr rv, hr.hp⟩
          exact sound_L hd l base ι S a w ⟨st.n, putF st.fr d (.v (.bool t)), st.h⟩ _ hg.1 hg.2 hm hr2 (fun _ => by simp [getF_put]) (g1 rfl) fun st' ι' S' a' w' k hm' hn' hr' => after hn' k hm' hr'
        · have ht' : t = !want := by cases t <;> cases want <;> simp_all
          subst ht'
          have hr2 : ROK base ι S a w ⟨st.n, putF st.fr d (negA want (getF st.fr d)), st.h⟩ := ⟨hr.df, hr.sz, FrOK.say hr.fr (by rw [ht0]; exact rv), hr.hp⟩
          refine sound_noL hd l base ι S a w _ hg.1 hg.2 hr2 (fun _ => .inl (by simp [getF_put, ht0, negA])) fun a' hr' => ?_
          have hh := noL_h ops l ⟨st.n, putF st.fr d (negA want (getF st.fr d)), st.h⟩
          exact after hh.2 (by rw [hh.1]; exact g2 rfl) (by rw [hh.1]; exact hm) hr'
      · have hr2 : ROK base ι S a w ⟨st.n, putF st.fr d (negA want (getF st.fr d)), st.h⟩ := ⟨hr.df, hr.sz, FrOK.say hr.fr (by rw [hu] at rv ⊢; exact rv), hr.hp⟩
        refine sound_noL hd l base ι S a w _ hg.1 hg.2 hr2 (fun _ => .inr (by simp only [getF_put, if_true, hu]; rfl)) fun a' hr' => ?_
        have hh := noL_h ops l ⟨st.n, putF st.fr d (negA want (getF st.fr d)), st.h⟩
        exact after hh.2 (by rw [hh.1]; exact g2) (by rw [hh.1]; exact hm) hr'
end

/-! ### Loops -/
/-- From some values and a heap to others that say less; the first 'n' places keep their numbers. -/
def Wk (n : Nat) (s : List AV) (h : Heap) (s' : List AV) (h' : Heap) : Prop :=
  n ≤ h'.length ∧ s'.length = s.length ∧ ∀ base ι S w vs, RepL ι S w s vs → HOK base ι S w h → ∃ ι' S', Evo n base ι S w ι' S' w ∧ RepL ι' S' w s' vs ∧ HOK base ι' S' w h'
/-- A loop: for each round what the slots that it turns hold, and the heap, and a number that goes down. -/
def iLoop (s : List AV) (h : Heap) (body : (List AV → Heap → Prop) → List AV → Heap → Prop) : Prop :=
  ∃ (α : Type) (I : α → Prop) (f : α → List AV) (g : α → Heap) (μ : α → Nat) (x₀ : α), I x₀ ∧ Wk h.length s h (f x₀) (g x₀) ∧
    ∀ x, I x → body (fun s' h' => ∃ y, I y ∧ Wk h.length s' h' (f y) (g y) ∧ μ y < μ x) (f x) (g x)

omit [Laid] in
theorem RepL.vals {ι : List Ix} {S : Stab} {w : World} {fr : Fr} {tmps : Array Value} (h : FrOK ι S w fr tmps) : ∀ ms : List Nat, RepL ι S w (valsF fr ms) (ms.map fun t => tmps.getD t undef)
  | [] => by simp [valsF]
  | t :: ms => (RepL_cons _ _ _ _).2 ⟨h t, RepL.vals h ms⟩
omit [Laid] in
theorem RepL.nx {ι : List Ix} {S : Stab} {w : World} {s : List AV} {vs : List Value} (h : RepL ι S w s vs) {i : Nat} {v : Value} (e : vs[i]? = some v) : Rep ι S w (Aw.nx s i) v := by
  obtain ⟨a, e1, r⟩ := h.get' i v e
  unfold Aw.nx
  rw [List.getD_eq_getElem?_getD, e1]; exact r

theorem AW_iLoop {P : Program} {m : Nat} {Q : Exit → St → Prop} {c : Code} {st : St} {cs ms : List Nat} (hm : m ≤ st.h.length) (body : (List AV → Heap → Prop) → List AV → Heap → Prop)
    (hb : ∀ next s h, st.h.length ≤ h.length → body next s h → AW P st.h.length c (thenQ (fun st' => req (Nat.beq st'.n st.n) (jmp cs ms st.fr st'.fr st'.h next)) Q) ⟨st.n, join cs ms st.fr s, h⟩) (hl : iLoop (valsF st.fr ms) st.h body) : AW P m (.loop c) Q st := by
  obtain ⟨α, I, f, g, μ, x₀, h₀, hw₀, round⟩ := hl
  intro base ι S a w _ hr
  have hfl : ∀ {s : List AV} {h' : Heap} {x : α} {n : Nat}, Wk n s h' (f x) (g x) → n ≤ (g x).length := fun k => k.1
  -- what stands at each round's beginning
  let Inv : α → Act → World → Prop := fun x a' w' => I x ∧ ∃ ι' S', Evo st.h.length base ι S w ι' S' w' ∧ st.h.length ≤ (g x).length ∧ ROK base ι' S' a' w' ⟨st.n, join cs ms st.fr (f x), g x⟩ ∧ FrOK ι' S' w' (normF cs st.fr) a'.tmps
  have enter : ∀ {x : α} {a' : Act} {w' : World} {ι1 : List Ix} {S1 : Stab} {s : List AV} {h' : Heap}, Evo st.h.length base ι S w ι1 S1 w' → a'.defers = [] → a'.tmps.size = st.n → HOK base ι1 S1 w' h' → FrOK ι1 S1 w' (normF cs st.fr) a'.tmps → RepL ι1 S1 w' s (ms.map fun t => a'.tmps.getD t undef) →
      I x → Wk st.h.length s h' (f x) (g x) → Inv x a' w' := by
    intro x a' w' ι1 S1 s h' hE hdf hsz hp hc hs hI hw
    obtain ⟨hw1, hw2, hw3⟩ := hw
    obtain ⟨ι2, S2, hE2, hs2, hp2⟩ := hw3 base ι1 S1 w' _ hs hp
    have hc2 : FrOK ι2 S2 w' (normF cs st.fr) a'.tmps := by
      intro t
      have hbd : Bd st.h.length (getF (normF cs st.fr) t) := by
        rcases getF_norm_mem cs st.fr t with q | ⟨_, q⟩
        · rw [q]; simp [Bd]
        · rw [q]; exact Rep.bd (by rw [hr.hp.len]; exact Nat.le_refl _) _ _ (hr.fr t)
      exact Rep.evoB hE2 _ _ hbd (hc t)
    exact ⟨hI, ι2, S2, hE.trans hE2, hw1, ⟨hdf, hsz, FrOK.putV ms _ _ 0 hc2 fun i t e => by rw [Nat.zero_add]; exact hs2.nx (by rw [List.getElem?_map, e]; rfl), hp2⟩, hc2⟩
  have entry : Inv x₀ a w := enter (Evo.refl _ _ _ _ _) hr.df hr.sz hr.hp (hr.fr.norm cs) (RepL.vals hr.fr ms) h₀ hw₀
  refine wp_loop_ghost Inv μ x₀ entry fun x a' w' ⟨hx, ι', S', hE, hm', hr', _⟩ => ?_
  refine wp_mono (hb _ _ _ hm' (round x hx) base ι' S' a' w' hm' hr') ?_
  intro e a'' w'' k
  obtain ⟨ι'', S'', st'', h1, h2, h3, h4⟩ := k
  have out : Q e st'' → Post m base ι S w Q e a'' w'' := fun q => ⟨ι'', S'', st'', (hE.trans h1).mono hm (Nat.le_refl _), Nat.le_trans hm h2, h3, q⟩
  cases e with
  | normal =>
    obtain ⟨hn, q⟩ := req_iff h4
    obtain ⟨e1, y, hy, hw, hlt⟩ := jmp_iff q
    have hn : st''.n = st.n := Nat.eq_of_beq_eq_true hn
    exact ⟨y, enter (hE.trans h1) h3.df (by rw [← hn]; exact h3.sz) h3.hp (h3.fr.keep e1) (RepL.vals h3.fr ms) hy hw, hlt⟩
  | exit id => exact out h4
  | goto l => exact out h4
  | ret => exact out h4
  | panic ch => exact out h4
  | outgrown => exact out h4

/-! ### Code -/
/-- The operations of a statement in order, with forks: number, kind, told or not. -/
inductive Fk where
  | nil
  | one (i k : Nat) (own : Bool) (t : Fk)
  | two (a b : Fk)
/-- Beside a piece of code: where ways meet, and which slots are turned there. -/
inductive An where
  | nil
  | seq (a b : An)
  | join (cs ms : List Nat) (a b : An)
  | two (a b : An)
  | one (a : An)
  | loop (cs ms : List Nat) (a : An)
  | segs (l : List Seg)
  | draw (t : Nat) (l r q : List Seg)
  | drawA (t : Nat) (A : List Nat) (l : List (Nat × Bool)) (r q : List Seg)
  | drawC (l : List (Nat × Nat × Bool))
  | drawT (t : Fk)
def An.l : An → An | .seq a _ => a | .join _ _ a _ => a | .two a _ => a | .one a => a | .loop _ _ a => a | _ => .nil
def An.r : An → An | .seq _ b => b | .join _ _ _ b => b | .two _ b => b | _ => .nil
def An.s : An → List Seg | .segs l => l | _ => []
def An.j : An → Option (List Nat × List Nat) | .join c m _ _ => some (c, m) | .loop c m _ => some (c, m) | _ => none
/-- Each operation alone. -/
def plain (n : Nat) : List Seg := (List.range n).map fun i => .op i false
def An.sg (t : An) (n : Nat) : List Seg := match t with | .segs l => l | _ => plain n
end Go.Aw
