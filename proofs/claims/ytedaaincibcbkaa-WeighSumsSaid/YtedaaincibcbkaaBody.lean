/-
  From a function's body to what a call of it comes to.
  No conditions: lemmas over any program.
-/
import Derived.Test.YtedaaincibcbkaaDraw
namespace Go.Aw
open Go Go.RowKit

/-- A piece of code without a loop; a loop is left as it is. -/
def ivc (P : Program) (m : Nat) : Code → (Exit → St → Prop) → St → Prop
  | .skip, Q, st => Q .normal st
  | .ret, Q, st => Q .ret st
  | .exit id, Q, st => Q (.exit id) st
  | .label _, Q, st => Q .normal st
  | .goto l, Q, st => Q (.goto l) st
  | .seq a b, Q, st => ivc P m a (thenQ (fun st => ivc P m b Q st) Q) st
  | .block id c, Q, st => ivc P m c (blockQ id Q) st
  | .cond c a b, Q, st => (match c with
    | .tmp t => (match st.fr[t]? with
      | some x => iCond x (ivc P m a Q ⟨st.fr.set t (.v (.bool true)), st.h⟩) (ivc P m b Q ⟨st.fr.set t (.v (.bool false)), st.h⟩)
      | none => False)
    | c => iCond (evalA st.fr c) (ivc P m a Q st) (ivc P m b Q st))
  | .region _ ops draw, Q, st => (match draw with
    | false => stepOps P ops (List.range ops.size) none st (Q .normal)
    | true => drawVC P ops Q st)
  | .loop c, Q, st => AW P m (.loop c) Q st
  | c, Q, st => AW P m c Q st

/-- A piece of a piece of code. -/
def sub : Code → List Nat → Code
  | c, [] => c
  | .seq a _, 0 :: p => sub a p
  | .seq _ b, _ :: p => sub b p
  | .cond _ a _, 0 :: p => sub a p
  | .cond _ _ b, _ :: p => sub b p
  | .block _ c, _ :: p => sub c p
  | .loop c, _ :: p => sub c p
  | .scope c, _ :: p => sub c p
  | c, _ => c
/-- What stands for a guard that said no. -/
def negA (want : Bool) (c : AV) : AV := match c with | .v (.bool _) => .v (.bool (!want)) | c => c

theorem thenQ_self (Q : Exit → St → Prop) : thenQ (Q .normal) Q = Q := by
  funext e st; cases e <;> rfl

/-- **A piece of code.** -/
theorem sound_ivc {P : Program} {m : Nat} : ∀ (c : Code) (Q : Exit → St → Prop) (st : St), ivc P m c Q st → AW P m c Q st
  | .skip, Q, st, h => AW_skip h
  | .ret, Q, st, h => AW_ret h
  | .exit id, Q, st, h => AW_exit h
  | .label l, Q, st, h => AW_label h
  | .goto l, Q, st, h => AW_goto h
  | .seq a b, Q, st, h => by
    refine AW_seq (AW.mono (sound_ivc a _ st h) fun e st' k => ?_)
    cases e with
    | normal => exact sound_ivc b Q st' k
    | _ => exact k
  | .block id c, Q, st, h => AW_block (sound_ivc c _ st h)
  | .cond c a b, Q, st, h => by
    intro base ι S ac w hm hr
    simp only [ivc] at h
    have other : ∀ {x : AV}, Rep ι S w x (ac.eval c) → iCond x (ivc P m a Q st) (ivc P m b Q st) → (Code.cond c a b).wp P (Post m base ι S w Q) ac w := by
      rintro x rx ⟨t, rfl, h1, h2⟩
      rw [Rep_v] at rx
      cases t with
      | true => exact wp_cond_true rx (sound_ivc a Q st (h1 rfl) base ι S ac w hm hr)
      | false => exact wp_cond_false rx (sound_ivc b Q st (h2 rfl) base ι S ac w hm hr)
    split at h
    · rename_i t
      split at h
      · rename_i x hx
        obtain ⟨v, hv, rv⟩ := hr.fr.get t x hx
        have hv' : ac.tmps[t]? = some v := by simpa using hv
        have he : ac.eval (.tmp t) = v := by simp [Act.eval, Array.getD_eq_getD_getElem?, hv']
        obtain ⟨b', rfl, h1, h2⟩ := h
        have rv' := rv
        rw [Rep_v] at rv'
        subst rv'
        cases b' with
        | true => exact wp_cond_true he (sound_ivc a Q ⟨st.fr.set t (.v (.bool true)), st.h⟩ (h1 rfl) base ι S ac w hm (hr.lit hv' rv))
        | false => exact wp_cond_false he (sound_ivc b Q ⟨st.fr.set t (.v (.bool false)), st.h⟩ (h2 rfl) base ι S ac w hm (hr.lit hv' rv))
      · exact h.elim
    · exact other (hr.eval _) h
  | .region id ops draw, Q, st, h => by
    cases draw with
    | false =>
      intro base ι S a w hm hr
      have := sound_ops (m := m) (Q := Q) (List.range ops.size) none base ι S a w st (Q .normal) hm hr trivial h
      rw [thenQ_self] at this
      exact wp_region this
    | true => exact sound_draw h
  | .loop c, Q, st, h => h
  | .rangeFunc _ _ _ _, Q, st, h => h
  | .scope _, Q, st, h => h
  | .refuse _, Q, st, h => h

/-- What the results are. -/
def resA (P : Program) (st : St) : List ResultVar → (List AV → Prop) → Prop
  | [], K => K []
  | .tmp t :: r, K => resA P st r fun l => K (evalA st.fr (.tmp t) :: l)
  | .cell a t :: r, K => req (tOk P t) (iLoad (tAgg P t) (P.cellsOf t) (evalA st.fr (.tmp a)) st.h fun v => resA P st r fun l => K (v :: l))

def retA : List AV → AV
  | [x] => x
  | l => .tup l

def bodyQ (P : Program) (rs : List ResultVar) (K : AV → Heap → Prop) : Exit → St → Prop
  | .normal, st => resA P st rs fun l => K (retA l) st.h
  | .ret, st => resA P st rs fun l => K (retA l) st.h
  | _, _ => False

theorem run_loadA {P : Program} {base : Nat} {ι : List Nat} {S : Stab} {a : Act} {w : World} {st : St} {t : TypeId} {x : Operand} {K : AV → Prop} (hr : ROK base ι S a w st) (hk : tOk P t = true) (h : iLoad (tAgg P t) (P.cellsOf t) (evalA st.fr x) st.h K) :
    ∃ ad v u, a.eval x = .pointer (some ad) ∧ (loadVar t ad).run P w = .ok u w ∧ Rep ι S w v u ∧ K v := by
  have hx := hr.eval x
  unfold iLoad at h
  split at h
  · rename_i cs e
    rw [e, Rep] at hx
    obtain ⟨b, off, ev, r⟩ := hx
    obtain ⟨vs, rv, hc⟩ := r.vals
    obtain ⟨v, u, hrun, rv, k⟩ := run_loadVar' (P := P) hk rv hc h
    exact ⟨_, v, u, ev, hrun, rv, k⟩
  · rename_i id off e
    rw [e, Rep] at hx
    obtain ⟨b, c1, ev⟩ := hx
    split at h
    · rename_i blk eb
      obtain ⟨b', arr, fz, k1, k2, k3, k4, k5, k6, k7, k8, k9⟩ := hr.hp.live id blk eb
      rw [c1] at k1; cases k1
      have hcells : RepL ι S w blk.cells (arr.toList.take blk.cells.length) := by
        refine RepL.mk (by simp; omega) fun i c v e1 e2 => ?_
        obtain ⟨v', e3, r⟩ := k6 i c e1
        rw [List.getElem?_take] at e2
        split at e2
        · simp only [Array.getElem?_toList] at e2
          rw [e3] at e2; cases e2; exact r
        · cases e2
      obtain ⟨v, u, hrun, rv, k⟩ := run_loadVar' (P := P) (b := b) (off := off) hk (hcells.drop off) (by
        intro i v e1
        rw [cell_at k3]
        rw [List.getElem?_drop, List.getElem?_take] at e1
        split at e1
        · simpa using e1
        · cases e1) h
      exact ⟨_, v, u, ev, hrun, rv, k⟩
    · exact h.elim
  · exact h.elim

def resVal (a : Act) : ResultVar → Sem Value
  | .tmp t => pure (a.tmps.getD t undef)
  | .cell x t => do loadVar t (← asAddr (a.tmps.getD x undef))
theorem results_eq (fn : Func) (a : Act) : results fn a.tmps = (do
    let vs ← fn.results.mapM (resVal a)
    pure (if h : vs.size = 1 then vs[0] else .tuple vs)) := by
  unfold results
  congr 1

theorem run_results {P : Program} {base : Nat} {ι : List Nat} {S : Stab} {a : Act} {w : World} {st : St} (hr : ROK base ι S a w st) : ∀ (rs : List ResultVar) (K : List AV → Prop), resA P st rs K →
    ∃ l vs, (rs.mapM (m := Sem) (resVal a)).run P w = .ok vs w ∧ RepL ι S w l vs ∧ K l
  | [], K, h => ⟨[], [], rfl, by simp, h⟩
  | .tmp t :: r, K, h => by
    obtain ⟨l, vs, e, rl, k⟩ := run_results hr r _ h
    refine ⟨_, a.eval (.tmp t) :: vs, ?_, by simpa using ⟨hr.eval (.tmp t), rl⟩, k⟩
    have e0 : (resVal a (.tmp t)).run P w = .ok (a.eval (.tmp t)) w := rfl
    simp only [List.mapM_cons, Sem.run_bind, Sem.run_pure, Result.andThen_ok, e, e0]
  | .cell x t :: r, K, h => by
    obtain ⟨hk, h⟩ := req_iff h
    obtain ⟨ad, v, u, e1, e2, rv, h⟩ := run_loadA (P := P) hr hk h
    obtain ⟨l, vs, e, rl, k⟩ := run_results hr r _ h
    refine ⟨v :: l, u :: vs, ?_, by simpa using ⟨rv, rl⟩, k⟩
    have e1' : a.tmps.getD x undef = .pointer (some ad) := e1
    have e0 : (resVal a (.cell x t)).run P w = .ok u w := by simp only [resVal, Sem.run_bind, e1', asAddr, Sem.run_pure, Result.andThen_ok, e2]
    simp only [List.mapM_cons, Sem.run_bind, Sem.run_pure, Result.andThen_ok, e0, e]

/-- **A call, by the body.** -/
theorem acall_of_body {P : Program} {f : FuncId} {fn : Func} {c : Code} {args : List AV} {h : Heap} {K : AV → Heap → Prop} (hf : P.funcs[f]? = some fn) (hb : fn.body = some c)
    (hw : AW P h.length c (bodyQ P fn.results.toList fun r h' => h.length ≤ h'.length → K r h') ⟨args ++ List.replicate (fn.ntmps - args.length) (.v undef), h⟩) : ACall P f args h K := by
  intro base ι S w vs h1 h2
  refine calls_of_wp hf hb (wp_mono (hw base ι S _ w (Nat.le_refl _) ⟨rfl, ?_, h2⟩) ?_)
  · have hl := h1.length
    have : RepL ι S w (List.replicate (fn.ntmps - args.length) (.v undef)) (List.replicate (fn.ntmps - args.length) undef) := RepL.mk (by simp) fun i a v e f => by
      rw [List.getElem?_replicate] at e f
      split at e
      · simp only [Option.some.injEq] at e; subst e
        rename_i hi
        rw [if_pos hi] at f
        simp only [Option.some.injEq] at f; subst f; simp
      · cases e
    have q := h1.append this
    simpa [hl] using q
  · rintro e a' w' ⟨ι', S', st', hE, hm, hr, hq⟩
    have fin : resA P st' fn.results.toList (fun l => h.length ≤ st'.h.length → K (retA l) st'.h) → a'.defers = [] ∧ ∃ v, (results fn a'.tmps).run P w' = .ok v w' ∧
        ∃ u ι'' S'' r h', Ending.returned v = .returned u ∧ Evo h.length base ι S w ι'' S'' w' ∧ Rep ι'' S'' w' r u ∧ HOK base ι'' S'' w' h' ∧ h.length ≤ h'.length ∧ K r h' := by
      intro hq
      obtain ⟨l, us, e1, rl, k⟩ := run_results (P := P) hr fn.results.toList _ hq
      refine ⟨hr.df, if hh : us.length = 1 then us[0] else .tuple us.toArray, ?_, _, ι', S', retA l, st'.h, rfl, hE, ?_, hr.hp, hm, k hm⟩
      · rw [results_eq, ← Array.toArray_toList (xs := fn.results), List.mapM_toArray]
        simp only [Sem.run_bind, Sem.run_map, e1, Result.andThen_ok, Sem.run_pure]
        by_cases hh : us.length = 1 <;> simp [hh]
      · have hl := rl.length
        match l, us, hl, rl with
        | [], [], _, _ => simp only [retA]; rw [Rep]; exact ⟨[], rfl, by simp⟩
        | [x], [u], _, rl => simp at rl; simpa [retA] using rl
        | x :: y :: l, u :: v :: us, _, rl => simp only [retA]; rw [Rep]; exact ⟨u :: v :: us, by simp, rl⟩
    cases e with
    | normal => exact fin hq
    | ret => exact fin hq
    | _ => exact hq.elim

theorem iLoad_mono {g : Bool} {sz : Nat} {x : AV} {h : Heap} {K K' : AV → Prop} (hk : ∀ v, K v → K' v) (q : iLoad g sz x h K) : iLoad g sz x h K' := by
  have ld : ∀ cs, ldP g sz cs K → ldP g sz cs K' := fun cs q => by
    unfold ldP at *
    split
    · exact ⟨q.1, hk _ q.2⟩
    · split
      · exact hk _ q
      · exact q
  cases x <;> simp only [iLoad] at q ⊢ <;> first | exact q | exact ld _ q | skip
  rename_i id o
  cases e : h[id]? with
  | none => rw [e] at q; exact q
  | some y =>
    rw [e] at q
    cases y with
    | none => exact q
    | some b => exact ld _ q

theorem con_of_body {P : Program} {f : FuncId} {fn : Func} {c : Code} {args : List AV} {r : AV} (hf : P.funcs[f]? = some fn) (hb : fn.body = some c) (pa : PureL args) (pr : Pure r)
    (hw : ivc P 0 c (bodyQ P fn.results.toList fun r' _ => r' = r) ⟨args ++ List.replicate (fn.ntmps - args.length) (.v undef), []⟩) : Con P f args r := by
  refine ⟨pa, pr, acall_of_body hf hb (AW.mono (sound_ivc _ _ _ hw) fun e st k => ?_)⟩
  have mono : ∀ (rs : List ResultVar) (K K' : List AV → Prop), (∀ l, K l → K' l) → resA P st rs K → resA P st rs K' := by
    intro rs
    induction rs with
    | nil => intro K K' hk h; exact hk _ h
    | cons x rs ih =>
      intro K K' hk h
      cases x with
      | tmp t => exact ih _ _ (fun l => hk _) h
      | cell a t =>
        obtain ⟨h1, h2⟩ := req_iff h
        unfold resA
        rw [h1]
        exact iLoad_mono (fun v => ih _ _ (fun l => hk _)) h2
  cases e with
  | normal => exact mono _ _ _ (fun l q _ => q) k
  | ret => exact mono _ _ _ (fun l q _ => q) k
  | _ => exact k

theorem con_of_body' {P : Program} {f : FuncId} {fn : Func} {c : Code} {args : List AV} {r : AV} {rs : List ResultVar} {fr : List AV} (hf : P.funcs[f]? = some fn) (hb : fn.body = some c) (hrs : fn.results.toList = rs)
    (hfr : args ++ List.replicate (fn.ntmps - args.length) (.v undef) = fr) (pa : PureL args) (pr : Pure r) (hw : ivc P 0 c (bodyQ P rs fun r' _ => r' = r) ⟨fr, []⟩) : Con P f args r := by
  subst hrs; subst hfr; exact con_of_body hf hb pa pr hw
theorem acall_of_body' {P : Program} {f : FuncId} {fn : Func} {c : Code} {args : List AV} {h : Heap} {K : AV → Heap → Prop} {rs : List ResultVar} {fr : List AV} (hf : P.funcs[f]? = some fn) (hb : fn.body = some c) (hrs : fn.results.toList = rs)
    (hfr : args ++ List.replicate (fn.ntmps - args.length) (.v undef) = fr) (hw : ivc P h.length c (bodyQ P rs fun r h' => h.length ≤ h'.length → K r h') ⟨fr, h⟩) : ACall P f args h K := by
  subst hrs; subst hfr; exact acall_of_body hf hb (sound_ivc _ _ _ hw)
theorem iCall_con {P : Program} {f : FuncId} {args : List AV} {r : AV} {h : Heap} {K : AV → Heap → Prop} (hb : hasBody P f = true) (c : Con P f args r) (k : K r h) : iCall P (.fn (.func f) [] []) args h K :=
  ⟨hb, by simpa using c.call k⟩
end Go.Aw
