/-
  From a function's body to what a call of it comes to.
  No conditions: lemmas over any program.
-/
import Derived.Test.YtpggiljgcckmoaaGreatDoorAdopt
namespace Go.Aw
open Go Go.RowKit
variable [Laid]

/-- What a piece of code asks: 'Q' behind it. -/
def ivc (P : Program) : Code → An → (Exit → St → Prop) → St → Prop
  | .skip, _, Q, st => Q .normal st
  | .ret, _, Q, st => Q .ret st
  | .exit id, _, Q, st => Q (.exit id) st
  | .label _, _, Q, st => Q .normal st
  | .goto l, _, Q, st => Q (.goto l) st
  | .seq a b, t, Q, st => (match t with
    | .join cs ms _ _ => iLet (fun J => ivc P a t.l (thenQ (fun st' => req (Nat.beq st'.n st.n) (jmp cs ms st.fr st'.fr st'.h J)) Q) st) fun s h => ivc P b t.r Q ⟨st.n, join cs ms st.fr s, h⟩
    | _ => ivc P a t.l (thenQ (fun st => ivc P b t.r Q st) Q) st)
  | .block id c, t, Q, st => ivc P c t.l (blockQ id Q) st
  | .cond c a b, t, Q, st => (match c with
    | .tmp x => iCond (getF st.fr x) (ivc P a t.l Q ⟨st.n, putF st.fr x (.v (.bool true)), st.h⟩) (ivc P b t.r Q ⟨st.n, putF st.fr x (.v (.bool false)), st.h⟩)
    | c => iCond (evalA st.fr c) (ivc P a t.l Q st) (ivc P b t.r Q st))
  | .region _ ops draw, t, Q, st => (match draw with
    | false => req (segsOK ops (t.sg ops.size)) (stepSegs P ops (t.sg ops.size) st (Q .normal))
    | true => (match t with
      | .draw k l r q => drawVC P ops k l r q Q st
      | .drawA k A l r q => drawAVC P ops k A l r q Q st
      | _ => False))
  | .loop c, t, Q, st => (match t with
    | .loop cs ms a => iLoop (valsF st.fr ms) st.h fun next s h => ivc P c a (thenQ (fun st' => req (Nat.beq st'.n st.n) (jmp cs ms st.fr st'.fr st'.h next)) Q) ⟨st.n, join cs ms st.fr s, h⟩
    | _ => False)
  | _, _, _, _ => False

theorem AW.mono2 {P : Program} {m : Nat} {c : Code} {Q Q' : Exit → St → Prop} {st : St} (h : AW P m c Q st) (hq : ∀ e st, m ≤ st.h.length → Q e st → Q' e st) : AW P m c Q' st :=
  fun base ι S a w hm hr => wp_mono (h base ι S a w hm hr) fun _ _ _ ⟨ι', S', st', h1, h2, h3, h4⟩ => ⟨ι', S', st', h1, h2, h3, hq _ _ h2 h4⟩

/-- **A piece of code.** -/
theorem sound_ivc {P : Program} : ∀ (c : Code) (t : An) (Q : Exit → St → Prop) (st : St) (m : Nat), m ≤ st.h.length → ivc P c t Q st → AW P m c Q st
  | .skip, t, Q, st, m, _, h => AW_skip h
  | .ret, t, Q, st, m, _, h => AW_ret h
  | .exit id, t, Q, st, m, _, h => AW_exit h
  | .label l, t, Q, st, m, _, h => AW_label h
  | .goto l, t, Q, st, m, _, h => AW_goto h
  | .seq a b, t, Q, st, m, hm, h => by
    simp only [ivc] at h
    split at h
    · rename_i cs ms a' b'
      refine AW_seq (AW.mono2 (sound_ivc a _ _ st m hm h) fun e st' hm' k => ?_)
      cases e with
      | normal =>
        obtain ⟨hn, q⟩ := req_iff k
        obtain ⟨e1, k⟩ := jmp_iff q
        have hn : st'.n = st.n := Nat.eq_of_beq_eq_true hn
        intro base ι S ac w _ hr
        exact sound_ivc b _ Q ⟨st.n, join cs ms st.fr (valsF st'.fr ms), st'.h⟩ m hm' k base ι S ac w hm' ⟨hr.df, by rw [← hn]; exact hr.sz, hr.fr.join e1, hr.hp⟩
      | _ => exact k
    · refine AW_seq (AW.mono2 (sound_ivc a _ _ st m hm h) fun e st' hm' k => ?_)
      cases e with
      | normal => exact sound_ivc b _ Q _ m hm' k
      | _ => exact k
  | .block id c, t, Q, st, m, hm, h => AW_block (sound_ivc c t.l _ st m hm h)
  | .cond c a b, t, Q, st, m, hm, h => by
    intro base ι S ac w hm' hr
    simp only [ivc] at h
    have other : ∀ {x : AV}, Rep ι S w x (ac.eval c) → iCond x (ivc P a t.l Q st) (ivc P b t.r Q st) → (Code.cond c a b).wp P (Post m base ι S w Q) ac w := by
      rintro x rx ⟨b', rfl, h1, h2⟩
      rw [Rep_v] at rx
      cases b' with
      | true => exact wp_cond_true rx (sound_ivc a t.l Q st m hm (h1 rfl) base ι S ac w hm hr)
      | false => exact wp_cond_false rx (sound_ivc b t.r Q st m hm (h2 rfl) base ι S ac w hm hr)
    split at h
    · rename_i x
      have rv := hr.get x
      obtain ⟨b', e, h1, h2⟩ := h
      rw [e] at rv
      have he : ac.eval (.tmp x) = .bool b' := by rw [Rep_v] at rv; exact rv
      cases b' with
      | true => exact wp_cond_true he (sound_ivc a t.l Q ⟨st.n, putF st.fr x (.v (.bool true)), st.h⟩ m hm (h1 rfl) base ι S ac w hm ⟨hr.df, hr.sz, FrOK.say hr.fr rv, hr.hp⟩)
      | false => exact wp_cond_false he (sound_ivc b t.r Q ⟨st.n, putF st.fr x (.v (.bool false)), st.h⟩ m hm (h2 rfl) base ι S ac w hm ⟨hr.df, hr.sz, FrOK.say hr.fr rv, hr.hp⟩)
    · exact other (hr.eval _) h
  | .region id ops draw, t, Q, st, m, hm, h => by
    cases draw with
    | false =>
      obtain ⟨hok, h⟩ := req_iff h
      simp only [segsOK, Bool.and_eq_true, beq_iff_eq] at hok
      intro base ι S a w _ hr
      have := sound_segs (m := m) (Q := Q) _ base ι S a w st hok.1 hm hr h
      rw [hok.2, thenQ_self] at this
      exact wp_region this
    | true =>
      simp only [ivc] at h
      split at h
      · exact sound_draw hm h
      · exact sound_drawA hm h
      · exact h.elim
  | .loop c, t, Q, st, m, hm, h => by
    simp only [ivc] at h
    split at h
    · rename_i cs ms a
      exact AW_iLoop (cs := cs) (ms := ms) hm _ (fun next s h' hl k => sound_ivc c a _ _ st.h.length hl k) h
    · exact h.elim
  | .rangeFunc _ _ _ _, t, Q, st, m, hm, h => h.elim
  | .scope _, t, Q, st, m, hm, h => h.elim
  | .refuse _, t, Q, st, m, hm, h => h.elim

/-- What the results are. -/
def resA (P : Program) (st : St) : List ResultVar → (List AV → Prop) → Prop
  | [], K => K []
  | .tmp t :: r, K => resA P st r fun l => K (evalA st.fr (.tmp t) :: l)
  | .cell a t :: r, K => req (tOk P t) (iLoad (tAgg P t) (P.cellsOf t) (evalA st.fr (.tmp a)) st.h fun v => resA P st r fun l => K (v :: l))

def retA : List AV → AV
  | [x] => x
  | l => .tup l

def bodyQ (P : Program) (rs : List ResultVar) (K : AV → Heap → Prop) : Exit → St → Prop
  | .normal, st => resA P st rs fun l => K (retA l) st.h
  | .ret, st => resA P st rs fun l => K (retA l) st.h
  | _, _ => False

theorem run_loadA {P : Program} {base : Nat} {ι : List Ix} {S : Stab} {a : Act} {w : World} {st : St} {t : TypeId} {x : Operand} {K : AV → Prop} (hr : ROK base ι S a w st) (hk : tOk P t = true) (h : iLoad (tAgg P t) (P.cellsOf t) (evalA st.fr x) st.h K) :
    ∃ ad v u, a.eval x = .pointer (some ad) ∧ (loadVar t ad).run P w = .ok u w ∧ Rep ι S w v u ∧ K v := by
  have hx := hr.eval x
  unfold iLoad at h
  split at h
  · rename_i cs e
    rw [e, Rep] at hx
    obtain ⟨b, off, ev, r⟩ := hx
    obtain ⟨vs, rv, hc⟩ := r.vals
    obtain ⟨v, u, hrun, rv, k⟩ := run_loadVar' (P := P) hk rv hc h
    exact ⟨_, v, u, ev, hrun, rv, k⟩
  · rename_i id off e
    rw [e, Rep] at hx
    obtain ⟨b, c1, ev⟩ := hx
    split at h
    · rename_i blk eb
      obtain ⟨b', arr, fz, k1, k2, k3, k4, k5, k6, k7, k8, k9⟩ := hr.hp.live id blk eb
      rw [c1] at k1; cases k1
      have hcells : RepL ι S w blk.cells (arr.toList.take blk.cells.length) := by
        refine RepL.mk (by simp; omega) fun i c v e1 e2 => ?_
        obtain ⟨v', e3, r⟩ := k6 i c e1
        rw [List.getElem?_take] at e2
        split at e2
        · simp only [Array.getElem?_toList] at e2
          rw [e3] at e2; cases e2; exact r
        · cases e2
      obtain ⟨v, u, hrun, rv, k⟩ := run_loadVar' (P := P) (b := b) (off := off) hk (hcells.drop off) (by
        intro i v e1
        rw [cell_at k3]
        rw [List.getElem?_drop, List.getElem?_take] at e1
        split at e1
        · simpa using e1
        · cases e1) h
      exact ⟨_, v, u, ev, hrun, rv, k⟩
    · exact h.elim
  · exact h.elim

def resVal (a : Act) : ResultVar → Sem Value
  | .tmp t => pure (a.tmps.getD t undef)
  | .cell x t => do loadVar t (← asAddr (a.tmps.getD x undef))
omit [Laid] in
theorem results_eq (fn : Func) (a : Act) : results fn a.tmps = (do
    let vs ← fn.results.mapM (resVal a)
    pure (if h : vs.size = 1 then vs[0] else .tuple vs)) := by
  unfold results
  congr 1

theorem run_results {P : Program} {base : Nat} {ι : List Ix} {S : Stab} {a : Act} {w : World} {st : St} (hr : ROK base ι S a w st) : ∀ (rs : List ResultVar) (K : List AV → Prop), resA P st rs K →
    ∃ l vs, (rs.mapM (m := Sem) (resVal a)).run P w = .ok vs w ∧ RepL ι S w l vs ∧ K l
  | [], K, h => ⟨[], [], rfl, by simp, h⟩
  | .tmp t :: r, K, h => by
    obtain ⟨l, vs, e, rl, k⟩ := run_results hr r _ h
    refine ⟨_, a.eval (.tmp t) :: vs, ?_, by simpa using ⟨hr.eval (.tmp t), rl⟩, k⟩
    have e0 : (resVal a (.tmp t)).run P w = .ok (a.eval (.tmp t)) w := rfl
    simp only [List.mapM_cons, Sem.run_bind, Sem.run_pure, Result.andThen_ok, e, e0]
  | .cell x t :: r, K, h => by
    obtain ⟨hk, h⟩ := req_iff h
    obtain ⟨ad, v, u, e1, e2, rv, h⟩ := run_loadA (P := P) hr hk h
    obtain ⟨l, vs, e, rl, k⟩ := run_results hr r _ h
    refine ⟨v :: l, u :: vs, ?_, by simpa using ⟨rv, rl⟩, k⟩
    have e1' : a.tmps.getD x undef = .pointer (some ad) := e1
    have e0 : (resVal a (.cell x t)).run P w = .ok u w := by simp only [resVal, Sem.run_bind, e1', asAddr, Sem.run_pure, Result.andThen_ok, e2]
    simp only [List.mapM_cons, Sem.run_bind, Sem.run_pure, Result.andThen_ok, e0, e]

/-- Arguments in their slots. -/
def args0 : List AV → Nat → Fr
  | [], _ => []
  | a :: r, i => (i, a) :: args0 r (i + 1)

omit [Laid] in
theorem args_ok {ι : List Ix} {S : Stab} {w : World} {args : List AV} {vs : List Value} (h1 : RepL ι S w args vs) (k : Nat) : FrOK ι S w (args0 args 0) (vs.toArray ++ Array.replicate k undef) := by
  have key : ∀ (as : List AV) (us : List Value) (k : Nat), RepL ι S w as us → ∀ t, getF (args0 as k) t = .any ∨ ∃ u, us[t - k]? = some u ∧ k ≤ t ∧ Rep ι S w (getF (args0 as k) t) u := by
    intro as
    induction as with
    | nil => intro us k _ t; exact .inl rfl
    | cons a as ih =>
      intro us k h t
      cases us with
      | nil => simp at h
      | cons u us =>
        simp only [RepL_cons] at h
        simp only [args0, getF]
        split
        · rename_i e
          subst e
          exact .inr ⟨u, by simp, Nat.le_refl _, h.1⟩
        · rename_i e
          rcases ih us (k + 1) h.2 t with q | ⟨v, q1, q2, q3⟩
          · exact .inl q
          · exact .inr ⟨v, by rw [show t - k = t - (k + 1) + 1 by omega]; simpa using q1, by omega, q3⟩
  intro t
  rcases key args vs 0 h1 t with q | ⟨u, q1, _, q3⟩
  · rw [q]; simp
  · have hlt : t < vs.length := by
      have := (List.getElem?_eq_some_iff.1 q1).1
      simpa using this
    have : (vs.toArray ++ Array.replicate k undef).getD t undef = u := by
      rw [Array.getD_eq_getD_getElem?, Array.getElem?_append_left (by simpa using hlt)]
      simp only [Nat.sub_zero] at q1
      simp [q1]
    rw [this]; exact q3

/-- What is known of a function of the translation. -/
def FnOK (P : Program) (f : FuncId) (c : Code) (n : Nat) (rs : List ResultVar) : Prop :=
  ∃ fn, P.funcs[f]? = some fn ∧ fn.body = some c ∧ fn.results.toList = rs ∧ fn.ntmps = n ∧ hasBody P f = true
omit [Laid] in
theorem FnOK.hb {P : Program} {f : FuncId} {c : Code} {n : Nat} {rs : List ResultVar} (F : FnOK P f c n rs) : hasBody P f = true := let ⟨_, _, _, _, _, h⟩ := F; h

/-- **A call, by the body**; what it leaves may say less. -/
theorem FnOK.acall {P : Program} {f : FuncId} {c : Code} {n : Nat} {rs : List ResultVar} (F : FnOK P f c n rs) (t : An) {args : List AV} {h : Heap} {K : AV → Heap → Prop} (hl : args.length ≤ n)
    (q : ivc P c t (bodyQ P rs fun r h' => ∃ r' h'', Wk h.length [r] h' [r'] h'' ∧ K r' h'') ⟨n, args0 args 0, h⟩) : ACall P f args h K := by
  obtain ⟨fn, hf, hb, hrs, hn, _⟩ := F
  subst hrs
  intro base ι S w vs h1 h2
  have hlen := h1.length
  refine calls_of_wp hf hb (wp_mono (sound_ivc _ _ _ _ h.length (Nat.le_refl _) q base ι S _ w (Nat.le_refl _) ⟨rfl, by simp [hn]; omega, args_ok h1 _, h2⟩) ?_)
  rintro e a' w' ⟨ι', S', st', hE, hm, hr, hq⟩
  have fin : resA P st' fn.results.toList (fun l => ∃ r' h'', Wk h.length [retA l] st'.h [r'] h'' ∧ K r' h'') → a'.defers = [] ∧ ∃ v, (results fn a'.tmps).run P w' = .ok v w' ∧
      ∃ u ι'' S'' r h', Ending.returned v = .returned u ∧ Evo h.length base ι S w ι'' S'' w' ∧ Rep ι'' S'' w' r u ∧ HOK base ι'' S'' w' h' ∧ h.length ≤ h'.length ∧ K r h' := by
    intro hq
    obtain ⟨l, us, e1, rl, r', h'', ⟨wk1, wk2, wk3⟩, k⟩ := run_results (P := P) hr fn.results.toList _ hq
    have hv : Rep ι' S' w' (retA l) (if hh : us.length = 1 then us[0] else .tuple us.toArray) := by
      have hl := rl.length
      match l, us, hl, rl with
      | [], [], _, _ => simp only [retA]; rw [Rep]; exact ⟨[], rfl, by simp⟩
      | [x], [u], _, rl => simp at rl; simpa [retA] using rl
      | x :: y :: l, u :: v :: us, _, rl => simp only [retA]; rw [Rep]; exact ⟨u :: v :: us, by simp, rl⟩
    obtain ⟨ι2, S2, hE2, hs2, hp2⟩ := wk3 base ι' S' w' [_] ((RepL_cons _ _ _ _).2 ⟨hv, by simp⟩) hr.hp
    refine ⟨hr.df, if hh : us.length = 1 then us[0] else .tuple us.toArray, ?_, _, ι2, S2, r', h'', rfl, hE.trans hE2, ((RepL_cons _ _ _ _).1 hs2).1, hp2, wk1, k⟩
    rw [results_eq, ← Array.toArray_toList (xs := fn.results), List.mapM_toArray]
    simp only [Sem.run_bind, Sem.run_map, e1, Result.andThen_ok, Sem.run_pure]
    by_cases hh : us.length = 1 <;> simp [hh]
  cases e with
  | normal => exact fin hq
  | ret => exact fin hq
  | _ => exact hq.elim

omit [Laid] in
theorem iLoad_mono {g : Bool} {sz : Nat} {x : AV} {h : Heap} {K K' : AV → Prop} (hk : ∀ v, K v → K' v) (q : iLoad g sz x h K) : iLoad g sz x h K' := by
  have ld : ∀ cs, ldP g sz cs K → ldP g sz cs K' := fun cs q => by
    unfold ldP at *
    split
    · exact ⟨q.1, hk _ q.2⟩
    · split
      · exact hk _ q
      · exact q
  cases x <;> simp only [iLoad] at q ⊢ <;> first | exact q | exact ld _ q | skip
  rename_i id o
  split at q
  · exact ld _ q
  · exact q

theorem iCall_con {P : Program} {f : FuncId} {args : List AV} {r : AV} {h : Heap} {K : AV → Heap → Prop} (hb : hasBody P f = true) (c : Con P f args r) (k : K r h) : iCall P (.fn (.func f) [] []) args h K :=
  ⟨hb, by simpa using c.call k⟩
theorem FnOK.call {P : Program} {f : FuncId} {c : Code} {n : Nat} {rs : List ResultVar} (F : FnOK P f c n rs) {args : List AV} {r : AV} {h : Heap} {K : AV → Heap → Prop} (q : Con P f args r) (k : K r h) : iCall P (.fn (.func f) [] []) args h K :=
  iCall_con F.hb q k
theorem bodyQ_ret (P : Program) (rs : List ResultVar) (K : AV → Heap → Prop) (st : St) : bodyQ P rs K .ret st = resA P st rs fun l => K (retA l) st.h := rfl
theorem bodyQ_normal (P : Program) (rs : List ResultVar) (K : AV → Heap → Prop) (st : St) : bodyQ P rs K .normal st = resA P st rs fun l => K (retA l) st.h := rfl
/-- What a function's body asks, told without slots. -/
def Body (P : Program) (f : FuncId) (args : List AV) (W : Heap → (AV → Heap → Prop) → Prop) : Prop :=
  ∃ c t n rs, FnOK P f c n rs ∧ args.length ≤ n ∧ ∀ h K, ivc P c t (bodyQ P rs K) ⟨n, args0 args 0, h⟩ = W h K
theorem Body.acall {P : Program} {f : FuncId} {args : List AV} {W : Heap → (AV → Heap → Prop) → Prop} (b : Body P f args W) {h : Heap} {K : AV → Heap → Prop} (q : W h fun r h' => ∃ r' h'', Wk h.length [r] h' [r'] h'' ∧ K r' h'') : ACall P f args h K :=
  let ⟨_, t, _, _, F, hl, e⟩ := b; F.acall t hl ((e h _).symm ▸ q)
theorem Body.hb {P : Program} {f : FuncId} {args : List AV} {W : Heap → (AV → Heap → Prop) → Prop} (b : Body P f args W) : hasBody P f = true := let ⟨_, _, _, _, F, _⟩ := b; F.hb
theorem Body.call {P : Program} {f : FuncId} {args args' : List AV} {W : Heap → (AV → Heap → Prop) → Prop} (b : Body P f args' W) {r : AV} {h : Heap} {K : AV → Heap → Prop} (q : Con P f args r) (k : K r h) : iCall P (.fn (.func f) [] []) args h K := iCall_con b.hb q k
abbrev u8 (n : Int) : AV := .v (.int .u8 n)
abbrev tt : AV := .v (.bool true)
abbrev ff : AV := .v (.bool false)
abbrev un : AV := .v undef
end Go.Aw
