/-
  A piece of code meets the condition that 'ivc' makes of it; a function's body gives a contract.
  No conditions: lemmas over any program.
-/
import Derived.Test.YtedaaincibcbkaaSound3
namespace Go.Aw
open Go Go.RowKit

section
variable {P : Program} {o : Oper} {base : Nat} {ι : List Nat} {S : Stab} {a : Act} {w : World} {st : St} {K : AV → Heap → Prop}

theorem s_eqA {op : BinOp} {neg : Bool} {t yt : TypeId} {x y : Operand} {ks : List Nat} (hr : ROK base ι S a w st) (ho : o.op = .binOp op t x y yt) (hop : op = (if neg then .neq else .eql)) (hg : P.eqGuardType P.depth t = false)
    (hagg : tAgg P t = true) (hks : flatK P 8 t = some ks) (h : iEqA neg ks (evalA st.fr x) (evalA st.fr y) fun v => K v st.h) : Meets P o base ι S a w st K := by
  have hx := hr.eval x
  have hy := hr.eval y
  unfold iEqA at h
  split at h
  · rename_i xs ys e1 e2
    rw [e1, Rep] at hx
    rw [e2, Rep] at hy
    obtain ⟨vs, ex, rx⟩ := hx
    obtain ⟨us, ey, ry⟩ := hy
    split at h
    · rename_i b eb
      have key := eq_run (P := P) (w := w) 8 t ks hks 10000 (by omega) xs ys vs us b rx ry eb
      simp only [ofCells, hagg, if_true] at key
      have hgu : (eqGuard op t x y (.agg vs.toArray) (.agg us.toArray)).run P w = .ok () w := run_eqGuard_agg w op t x y _ _ hg
      refine meets_pure hr (u := .bool (if neg then !b else b)) ?_ (by simp) h
      simp only [execOp, ho, ex, ey]
      refine runv ?_
      rw [Sem.run_bind, hgu]
      simp only [Result.andThen_ok]
      cases neg with
      | true => subst hop; simp only [if_true, run_neq_struct, key, Result.andThen_ok]
      | false => subst hop; simp only [Bool.false_eq_true, if_false, run_eql_struct, key, Result.andThen_ok]
    · exact h.elim
  · exact h.elim

theorem req_iff {b : Bool} {X : Prop} (h : req b X) : b = true ∧ X := by
  cases b with
  | true => exact ⟨rfl, h⟩
  | false => exact h.elim

/-- **Each operation.** -/
theorem sound_step (hr : ROK base ι S a w st) (h : stepOp P (evalA st.fr) st.h o.op K) : Meets P o base ι S a w st K := by
  generalize ho : o.op = op at h
  unfold stepOp at h
  split at h
  · exact s_move hr (.inl ho) h
  · exact s_move hr (.inr ho) h
  · exact s_pick hr ho h
  · rename_i bop t x y yt
    split at h
    · rename_i hagg
      split at h
      · obtain ⟨hg, h⟩ := req_iff h
        have hg : P.eqGuardType P.depth t = false := by simpa using hg
        split at h
        · rename_i ks hks; exact s_eqA (neg := false) hr ho rfl hg hagg hks h
        · exact h.elim
      · obtain ⟨hg, h⟩ := req_iff h
        have hg : P.eqGuardType P.depth t = false := by simpa using hg
        split at h
        · rename_i ks hks; exact s_eqA (neg := true) hr ho rfl hg hagg hks h
        · exact h.elim
      · exact h.elim
    · split at h
      · rename_i ht; exact s_binB hr ho ht h
      · exact s_bin hr ho h
      · exact s_bin hr ho h
      · exact h.elim
  · exact s_not hr ho h
  · exact s_neg hr ho h
  · split at h
    · rename_i hs hd; exact s_conv hr ho hs hd h
    · rename_i hs hd
      unfold iStrS at h
      split at h
      · rename_i e; exact s_convS hr ho hs hd ⟨_, e, h⟩
      · exact h.elim
    · exact h.elim
  · exact s_extr hr ho h
  · split at h
    · rename_i ht
      split at h
      · rename_i hf; exact s_field hr ho ht hf (req_iff h).1 (req_iff h).2
      · exact h.elim
    · exact h.elim
  · split at h
    · rename_i ht; exact s_idxS hr ho ht h
    · rename_i ht; exact s_idxA hr ho ht (req_iff h).1 (req_iff h).2
    · exact h.elim
  · split at h
    · rename_i ht; exact s_slS hr ho ht h
    · rename_i ht; exact s_sl hr ho ht (req_iff h).1 (req_iff h).2
    · rename_i ht; exact s_slA hr ho ht (req_iff h).1 (req_iff h).2
    · exact h.elim
  · split at h
    · rename_i ht; exact s_idxP hr ho ht (req_iff h).1 (req_iff h).2
    · rename_i ht; exact s_idxQ hr ho ht (req_iff h).1 (req_iff h).2
    · exact h.elim
  · split at h
    · rename_i ht
      split at h
      · rename_i hf
        obtain ⟨hq, h⟩ := req_iff h
        simp only [Bool.and_eq_true, bne_iff_ne, ne_eq] at hq
        exact s_fad hr ho ht hf hq.1 hq.2 h
      · exact h.elim
    · exact h.elim
  · exact s_nil hr ho h
  · exact s_load hr ho (req_iff h).1 (req_iff h).2
  · exact s_store hr ho (req_iff h).1 (req_iff h).2
  · split at h
    · rename_i hz; exact s_alloc hr ho hz h
    · exact h.elim
  · exact s_box hr ho h
  · split at h
    · rename_i ht hz
      obtain ⟨hq, h⟩ := req_iff h
      simp only [Bool.and_eq_true] at hq
      exact s_buildS hr ho ht hz hq.1 hq.2 h
    · rename_i ht hz; exact s_buildA hr ho ht hz (req_iff h).1 (req_iff h).2
    · exact h.elim
  · exact s_func hr ho h
  · rename_i c
    split at h
    · rename_i hc
      split at h
      · rename_i hat hax
        split at h
        · rename_i ht; exact s_lenS hr ho hc hat hax ht h
        · rename_i ht; exact s_len hr ho hc hat hax ht h
        · exact h.elim
      · exact h.elim
    · rename_i hc
      split at h
      · rename_i hax; exact s_min hr ho hc hax h
      · exact h.elim
    · rename_i hc
      split at h
      · rename_i hax; exact s_max hr ho hc hax h
      · exact h.elim
    · rename_i hc
      unfold iCall at h
      split at h
      · rename_i hx; exact s_call hr ho hc hx h.1 h.2
      · exact h.elim
    · exact h.elim
  · exact h.elim
end

/-! ### Operations in a row -/
/-- What is known of the guard that was asked last. -/
def ModeOK (ops : Array Oper) (fr : List AV) : Option (Nat × Bool × Bool) → Prop
  | none => True
  | some (j, want, b) => ∃ d c, dstOf ops j = some d ∧ fr[d]? = some c ∧ match b with | true => c = .v (.bool want) | false => c = .v (.bool (!want)) ∨ c = .v undef

theorem ModeOK.keep {ops : Array Oper} {fr : List AV} {mode : Option (Nat × Bool × Bool)} (h : ModeOK ops fr mode) (o : Oper) (x : AV) : ModeOK ops (setFr fr o.dst x) (keepM ops o mode) := by
  cases mode with
  | none => simp [keepM, ModeOK]
  | some m =>
    obtain ⟨j, want, b⟩ := m
    obtain ⟨d, c, h1, h2, h3⟩ := h
    unfold keepM
    dsimp only
    split
    · trivial
    · rename_i hne
      refine ⟨d, c, h1, ?_, h3⟩
      unfold setFr
      split
      · rename_i t ht
        have : t ≠ d := fun q => hne (by rw [ht, h1, q])
        rw [List.getElem?_set_ne this]; exact h2
      · exact h2

theorem yielded_of {ops : Array Oper} {base : Nat} {ι : List Nat} {S : Stab} {a : Act} {w : World} {st : St} (hr : ROK base ι S a w st) {j d : Nat} {c : AV} (h1 : dstOf ops j = some d) (h2 : st.fr[d]? = some c) :
    (∀ b, c = .v (.bool b) → yielded ops a.tmps j = some b) ∧ (c = .v undef → yielded ops a.tmps j = none) := by
  obtain ⟨v, hv, r⟩ := hr.fr.get d c h2
  simp only [Array.getElem?_toList] at hv
  unfold dstOf at h1
  unfold yielded
  rw [h1]
  simp only [Option.bind_some, hv]
  constructor
  · intro b e; rw [e, Rep_v] at r; rw [r]
  · intro e; rw [e, Rep_v] at r; rw [r]; rfl

theorem ROK.lit {base : Nat} {ι : List Nat} {S : Stab} {a : Act} {w : World} {st : St} (hr : ROK base ι S a w st) {d : Nat} {x : AV} {v : Value} (hv : a.tmps[d]? = some v) (h : Rep ι S w x v) :
    ROK base ι S a w ⟨st.fr.set d x, st.h⟩ := by
  refine ⟨hr.df, ?_, hr.hp⟩
  have := hr.fr.set d x v h
  have e : a.tmps.toList.set d v = a.tmps.toList := by
    refine List.ext_getElem? fun i => ?_
    by_cases hi : i = d
    · subst hi
      have hlt : i < a.tmps.toList.length := by
        obtain ⟨q, _⟩ := Array.getElem?_eq_some_iff.1 hv; simpa using q
      rw [List.getElem?_set_self hlt]; simpa using hv.symm
    · rw [List.getElem?_set_ne (Ne.symm hi)]
  rw [e] at this; exact this

theorem wp_mono2 {P : Program} {o : Oper} {a : Act} {w : World} {K K' : Act → World → Prop} {Q Q' : Exit → Act → World → Prop} (h1 : ∀ a w, K a w → K' a w) (h2 : ∀ e a w, Q e a w → Q' e a w) (h : o.wp P a w K Q) : o.wp P a w K' Q' := by
  unfold Oper.wp at *
  generalize (execOp a.eval o).run P w = r at *
  unfold Oper.upon at *
  split at h
  · exact h1 _ _ h
  · exact h1 _ _ h
  · exact h1 _ _ h
  · exact h.mono fun e w' k => by
      cases e with
      | returned v => exact h1 _ _ k
      | panicked ch => exact h2 _ _ _ k
      | outgrown => obtain ⟨a0, w0, k⟩ := k; exact ⟨a0, w0, h2 _ _ _ k⟩
  · exact h.mono fun v w' k => h1 _ _ k
  · exact h2 _ _ _ h
  · exact h.elim

theorem wpOps_mono {P : Program} {ops : Array Oper} {Q Q' : Exit → Act → World → Prop} (hq : ∀ e a w, Q e a w → Q' e a w) : ∀ (l : List Nat) (a : Act) (w : World), wpOps P ops Q l a w → wpOps P ops Q' l a w
  | [], a, w, h => hq _ _ _ h
  | i :: l, a, w, h => by
    simp only [wpOps] at *
    cases ho : ops[i]? with
    | none => rw [ho] at h; exact wpOps_mono hq l a w h
    | some o =>
      rw [ho] at h
      simp only at *
      split
      · rename_i hw
        rw [if_pos hw] at h
        rcases h with h | ⟨h, a0, w0, k⟩
        · exact .inl (wp_mono2 (fun a w => wpOps_mono hq l a w) hq h)
        · exact .inr ⟨h, a0, w0, hq _ _ _ k⟩
      · rename_i hw
        rw [if_neg hw] at h
        exact wpOps_mono hq l _ w h

theorem sound_ops {P : Program} {ops : Array Oper} {m : Nat} {Q : Exit → St → Prop} : ∀ (l : List Nat) (mode : Option (Nat × Bool × Bool)) (base : Nat) (ι : List Nat) (S : Stab) (a : Act) (w : World) (st : St) (K : St → Prop),
    m ≤ st.h.length → ROK base ι S a w st → ModeOK ops st.fr mode → stepOps P ops l mode st K →
    wpOps P ops (Post m base ι S w (thenQ K Q)) l a w
  | [], mode, base, ι, S, a, w, st, K, hm, hr, hmo, h => ⟨ι, S, st, Evo.refl _ _ _ _ _, hm, hr, h⟩
  | i :: l, mode, base, ι, S, a, w, st, K, hm, hr, hmo, h => by
    simp only [stepOps] at h
    simp only [wpOps]
    cases ho : ops[i]? with
    | none => rw [ho] at h; exact h.elim
    | some o =>
      rw [ho] at h
      simp only at h ⊢
      have after : ∀ {ι' S' a' w' st'} {mode'}, Evo ι.length base ι S w ι' S' w' → st.h.length ≤ st'.h.length → ROK base ι' S' a' w' st' → ModeOK ops st'.fr mode' → stepOps P ops l mode' st' K → wpOps P ops (Post m base ι S w (thenQ K Q)) l a' w' := by
        intro ι' S' a' w' st' mode' hE hl hr' hmo' h'
        have := sound_ops (m := m) (Q := Q) l mode' base ι' S' a' w' st' K (by omega) hr' hmo' h'
        refine wpOps_mono (fun e a w k => ?_) l a' w' this
        exact Post.trans (hE.mono (by rw [hr.hp.len]; exact hm) (Nat.le_refl _)) k
      have yes : ∀ {st' : St} {mode' : Option (Nat × Bool × Bool)}, ROK base ι S a w st' → st'.h = st.h → ModeOK ops st'.fr mode' → Region.wanted o (yielded ops a.tmps) = true →
          (stepOp P (evalA st'.fr) st'.h o.op fun v h => stepOps P ops l (keepM ops o mode') ⟨setFr st'.fr o.dst v, h⟩ K) →
          (if Region.wanted o (yielded ops a.tmps) then o.wp P a w (wpOps P ops (Post m base ι S w (thenQ K Q)) l) (Post m base ι S w (thenQ K Q)) ∨ (o.asks P a w ∧ LetsOut (Post m base ι S w (thenQ K Q))) else wpOps P ops (Post m base ι S w (thenQ K Q)) l (a.put o.dst undef) w) := by
        intro st' mode' hr' hh hmo' hw h'
        rw [if_pos hw]
        left
        have := sound_step hr' h' (Post m base ι S w (thenQ K Q))
        refine wp_mono2 (fun a' w' k => ?_) (fun _ _ _ k => k) this
        obtain ⟨ι', S', v, h2, hE, hR, hl, k⟩ := k
        exact after hE (by rw [← hh]; exact hl) hR (hmo'.keep o v) k
      have no : ∀ {st' : St} {mode' : Option (Nat × Bool × Bool)}, ROK base ι S a w st' → st'.h = st.h → ModeOK ops st'.fr mode' → Region.wanted o (yielded ops a.tmps) = false →
          stepOps P ops l (keepM ops o mode') ⟨setFr st'.fr o.dst (.v undef), st'.h⟩ K →
          (if Region.wanted o (yielded ops a.tmps) then o.wp P a w (wpOps P ops (Post m base ι S w (thenQ K Q)) l) (Post m base ι S w (thenQ K Q)) ∨ (o.asks P a w ∧ LetsOut (Post m base ι S w (thenQ K Q))) else wpOps P ops (Post m base ι S w (thenQ K Q)) l (a.put o.dst undef) w) := by
        intro st' mode' hr' hh hmo' hw h'
        rw [hw]
        simp only [Bool.false_eq_true, if_false]
        have q := hr'.put (x := .v undef) (v := undef) o.dst (by simp)
        refine after (Evo.refl _ _ _ _ _) (st' := ⟨setFr st'.fr o.dst (.v undef), st'.h⟩) (by rw [hh]; exact Nat.le_refl _) ?_ (hmo'.keep o _) h'
        cases hd : o.dst with
        | none => rw [hd] at q; exact q
        | some t => rw [hd] at q; exact q
      cases hg : o.guard with
      | none =>
        rw [hg] at h
        exact yes hr rfl hmo (by simp [Region.wanted, hg]) h
      | some jw =>
        obtain ⟨j, want⟩ := jw
        rw [hg] at h
        simp only at h
        have wanted_eq : Region.wanted o (yielded ops a.tmps) = (yielded ops a.tmps j == some want) := by simp [Region.wanted, hg]
        have askCase : (match dstOf ops j with
            | some d => match st.fr[d]? with
              | some c => iGuard c want
                (stepOp P (evalA (st.fr.set d (.v (.bool want)))) st.h o.op fun v h => stepOps P ops l (keepM ops o (some (j, want, true))) ⟨setFr (st.fr.set d (.v (.bool want))) o.dst v, h⟩ K)
                (stepOps P ops l (keepM ops o (some (j, want, false))) ⟨setFr (st.fr.set d (match c with | .v (.bool _) => .v (.bool (!want)) | c => c)) o.dst (.v undef), st.h⟩ K)
              | none => False
            | none => False) → (if Region.wanted o (yielded ops a.tmps) then o.wp P a w (wpOps P ops (Post m base ι S w (thenQ K Q)) l) (Post m base ι S w (thenQ K Q)) ∨ (o.asks P a w ∧ LetsOut (Post m base ι S w (thenQ K Q))) else wpOps P ops (Post m base ι S w (thenQ K Q)) l (a.put o.dst undef) w) := by
          intro h
          split at h
          · rename_i d hd
            split at h
            · rename_i c hc
              obtain ⟨v, hv, rv⟩ := hr.fr.get d c hc
              have hv' : a.tmps[d]? = some v := by simpa using hv
              have hlt : d < st.fr.length := (List.getElem?_eq_some_iff.1 hc).1
              obtain ⟨y1, y2⟩ := yielded_of hr hd hc
              rcases h with ⟨t, rfl, g1, g2⟩ | ⟨rfl, g2⟩
              · have hy := y1 t rfl
                by_cases ht : t = want
                · subst ht
                  exact yes (st' := ⟨st.fr.set d (.v (.bool t)), st.h⟩) (mode' := some (j, t, true)) (hr.lit hv' rv) rfl ⟨d, _, hd, by rw [List.getElem?_set_self hlt], rfl⟩ (by rw [wanted_eq, hy]; simp) (g1 rfl)
                · have ht' : t = !want := by cases t <;> cases want <;> simp_all
                  have hrv : Rep ι S w (.v (.bool (!want))) v := by rw [← ht']; exact rv
                  exact no (st' := ⟨st.fr.set d (.v (.bool (!want))), st.h⟩) (mode' := some (j, want, false)) (hr.lit hv' hrv) rfl ⟨d, _, hd, by rw [List.getElem?_set_self hlt], .inl rfl⟩ (by rw [wanted_eq, hy, ht']; cases want <;> rfl) (g2 ht')
              · exact no (st' := ⟨st.fr.set d (.v undef), st.h⟩) (mode' := some (j, want, false)) (hr.lit hv' rv) rfl ⟨d, _, hd, by rw [List.getElem?_set_self hlt], .inr rfl⟩ (by rw [wanted_eq, y2 rfl]; rfl) g2
            · exact h.elim
          · exact h.elim
        split at h
        · rename_i j' want' b
          split at h
          · rename_i he
            obtain ⟨rfl, rfl⟩ := he
            obtain ⟨d, c, h1, h2, h3⟩ := hmo
            obtain ⟨y1, y2⟩ := yielded_of hr h1 h2
            cases b with
            | true => exact yes (mode' := some (j', want', true)) hr rfl ⟨d, c, h1, h2, h3⟩ (by rw [wanted_eq, y1 _ h3]; simp) h
            | false =>
              refine no (mode' := some (j', want', false)) hr rfl ⟨d, c, h1, h2, h3⟩ ?_ h
              rcases h3 with h3 | h3
              · rw [wanted_eq, y1 _ h3]; cases want' <;> rfl
              · rw [wanted_eq, y2 h3]; rfl
          · exact askCase h
        · exact askCase h
end Go.Aw
