/-
  Runs of a function whose code jumps back to a label.
  No conditions: definitions and lemmas over any program.
-/
import Derived.Test.YtdngilegbpgjgaaGreatDoorL4
import Derived.ScopeJumps
set_option linter.unusedVariables false
set_option linter.unusedSimpArgs false
namespace Go.Aw
open Go Go.RowKit
theorem least_of {p : Nat → Prop} (h : ∃ k, p k) : ∃ k, p k ∧ ∀ j, p j → k ≤ j := by
  obtain ⟨k, hk⟩ := h
  induction k using Nat.strongRecOn with
  | _ k ih =>
    by_cases q : ∃ j, j < k ∧ p j
    · obtain ⟨j, hj, pj⟩ := q
      exact ih j hj pj
    · exact ⟨k, hk, fun j pj => Nat.le_of_not_lt fun z => q ⟨j, z, pj⟩⟩
open Classical in
noncomputable def leastN (p : Nat → Prop) : Nat := if h : ∃ k, p k then Classical.choose (least_of h) else 0
theorem leastN_spec {p : Nat → Prop} (h : ∃ k, p k) : p (leastN p) ∧ ∀ j, p j → leastN p ≤ j := by
  unfold leastN
  rw [dif_pos h]
  exact Classical.choose_spec (least_of h)
/-- Back to a label, each time with less to go. -/
theorem wp_scope_fuel {P : Program} {a : Act} {w : World} {Q : Exit → Act → World → Prop} {c rest : Code} (l : Nat) (J : Nat → Act → World → Prop) (hf : findLabel c l = some rest) (first : c.wp P (Exit.jump l (fun a w => ∃ k, J k a w) Q) a w)
    (pass : ∀ k a w, J k a w → rest.wp P (Exit.jump l (fun a' w' => ∃ k', k' < k ∧ J k' a' w') Q) a w) : (Code.scope c).wp P Q a w := by
  refine wp_scope_jumps l (fun a w => ∃ k, J k a w) (fun a w => leastN fun k => J k a w) hf first fun a w h => ?_
  obtain ⟨h1, h2⟩ := leastN_spec h
  refine wp_mono (pass _ a w h1) fun e a' w' z => ?_
  cases e with
  | goto l' =>
    obtain ⟨rfl, k', hk, hJ⟩ := z
    exact ⟨rfl, ⟨k', hJ⟩, Nat.lt_of_le_of_lt ((leastN_spec (p := fun k => J k a' w') ⟨k', hJ⟩).2 k' hJ) hk⟩
  | normal => exact z
  | exit id => exact z
  | ret => exact z
  | panic ch => exact z
  | outgrown => exact z
section
variable [Laid]
/-- Pieces in a row; the last may jump. -/
noncomputable def runG (P : Program) (own : Nat → Nat → Bool) (n : Nat) (call : CallF) (F : Nat) : Code → Tr → Heap → (Exit → Tr → Heap → Option Out) → Option Out
  | .goto l, T, h, q => q (.goto l) T h
  | .seq a b, T, h, q => runG P own n call F a T h (fun e T h => match e with | .normal => runG P own n call F b T h q | e => q e T h)
  | c, T, h, q => run call F (cC P own n c) T h q
variable {P : Program} {call : CallF} {own : Nat → Nat → Bool} {n F : Nat}
theorem runG_sound (hc : CallOK P call) : ∀ (c : Code) (T : Tr) (st : St) (q : Exit → Tr → Heap → Option Out) (r : Out) (m : Nat), st.n = n → Fits st.fr T → runG P own n call F c T st.h q = some r → AW P m c (PostR n q r) st
  | .goto l, T, st, q, r, m, hn, hf, e => AW_goto ⟨hn, T, hf, e⟩
  | .seq a b, T, st, q, r, m, hn, hf, e => by
    refine AW_seq ((runG_sound hc a T st _ r m hn hf e).mono fun ex st' k => ?_)
    obtain ⟨hn', T', hf', e'⟩ := k
    cases ex with
    | normal => exact runG_sound hc b T' st' q r m hn' hf' e'
    | exit i => exact ⟨hn', T', hf', e'⟩
    | goto l => exact ⟨hn', T', hf', e'⟩
    | ret => exact ⟨hn', T', hf', e'⟩
    | panic ch => exact ⟨hn', T', hf', e'⟩
    | outgrown => exact ⟨hn', T', hf', e'⟩
  | .skip, T, st, q, r, m, hn, hf, e => run_sound hc _ T st q r m hn hf e
  | .region .., T, st, q, r, m, hn, hf, e => run_sound hc _ T st q r m hn hf e
  | .cond .., T, st, q, r, m, hn, hf, e => run_sound hc _ T st q r m hn hf e
  | .block .., T, st, q, r, m, hn, hf, e => run_sound hc _ T st q r m hn hf e
  | .loop .., T, st, q, r, m, hn, hf, e => run_sound hc _ T st q r m hn hf e
  | .exit .., T, st, q, r, m, hn, hf, e => run_sound hc _ T st q r m hn hf e
  | .label .., T, st, q, r, m, hn, hf, e => run_sound hc _ T st q r m hn hf e
  | .ret, T, st, q, r, m, hn, hf, e => run_sound hc _ T st q r m hn hf e
  | .scope .., T, st, q, r, m, hn, hf, e => run_sound hc _ T st q r m hn hf e
  | .rangeFunc .., T, st, q, r, m, hn, hf, e => run_sound hc _ T st q r m hn hf e
  | .refuse .., T, st, q, r, m, hn, hf, e => run_sound hc _ T st q r m hn hf e
noncomputable def backG (body : Tr → Heap → (Exit → Tr → Heap → Option Out) → Option Out) (l : Nat) (q : Exit → Tr → Heap → Option Out) : Nat → Tr → Heap → Option Out
  | 0, _, _ => none
  | k + 1, T, h => body T h (fun e T h => match e with | .goto l' => (match Nat.beq l' l with | true => backG body l q k T h | false => none) | e => q e T h)
theorem scopeG_sound (hc : CallOK P call) {c rest : Code} {l : Nat} (hl : findLabel c l = some rest) {T : Tr} {st : St} {q : Exit → Tr → Heap → Option Out} {r : Out} {m K : Nat} (hn : st.n = n) (hf : Fits st.fr T)
    (e : runG P own n call F c T st.h (fun e T h => match e with | .goto l' => (match Nat.beq l' l with | true => backG (runG P own n call F rest) l q K T h | false => none) | e => q e T h) = some r) : AW P m (.scope c) (PostR n q r) st := by
  intro base ι S a w hm hr
  have conv : ∀ (k : Nat) (J : Act → World → Prop) (hJ : ∀ (a' : Act) (w' : World), (∃ ι' S' st' T', Evo m base ι S w ι' S' w' ∧ m ≤ st'.h.length ∧ ROK base ι' S' a' w' st' ∧ st'.n = n ∧ Fits st'.fr T' ∧ backG (runG P own n call F rest) l q k T' st'.h = some r) → J a' w')
      (ex : Exit) (a' : Act) (w' : World), Post m base ι S w (PostR n (fun e T h => match e with | .goto l' => (match Nat.beq l' l with | true => backG (runG P own n call F rest) l q k T h | false => none) | e => q e T h) r) ex a' w' → Exit.jump l J (Post m base ι S w (PostR n q r)) ex a' w' := by
    intro k J hJ ex a' w' z
    obtain ⟨ι', S', st', h1, h2, h3, hn', T', hf', e'⟩ := z
    cases ex with
    | goto l' =>
      simp only at e'
      split at e'
      · rename_i hb
        exact ⟨Nat.eq_of_beq_eq_true hb, hJ _ _ ⟨ι', S', st', T', h1, h2, h3, hn', hf', e'⟩⟩
      · cases e'
    | normal => exact ⟨ι', S', st', h1, h2, h3, hn', T', hf', e'⟩
    | exit i => exact ⟨ι', S', st', h1, h2, h3, hn', T', hf', e'⟩
    | ret => exact ⟨ι', S', st', h1, h2, h3, hn', T', hf', e'⟩
    | panic ch => exact ⟨ι', S', st', h1, h2, h3, hn', T', hf', e'⟩
    | outgrown => exact ⟨ι', S', st', h1, h2, h3, hn', T', hf', e'⟩
  refine wp_scope_fuel l (fun k a' w' => ∃ ι' S' st' T', Evo m base ι S w ι' S' w' ∧ m ≤ st'.h.length ∧ ROK base ι' S' a' w' st' ∧ st'.n = n ∧ Fits st'.fr T' ∧ backG (runG P own n call F rest) l q k T' st'.h = some r) hl ?_ ?_
  · exact wp_mono (runG_sound hc c T st _ r m hn hf e base ι S a w hm hr) (conv K _ fun a' w' z => ⟨K, z⟩)
  · rintro k a' w' ⟨ι', S', st', T', h1, h2, h3, hn', hf', e'⟩
    cases k with
    | zero => simp [backG] at e'
    | succ k =>
      have e' : runG P own n call F rest T' st'.h (fun e T h => match e with | .goto l' => (match Nat.beq l' l with | true => backG (runG P own n call F rest) l q k T h | false => none) | e => q e T h) = some r := e'
      refine wp_mono (runG_sound hc rest T' st' _ r m hn' hf' e' base ι' S' a' w' h2 h3) fun ex a2 w2 z => ?_
      exact conv k _ (fun a3 w3 y => ⟨k, Nat.lt_succ_self k, y⟩) ex a2 w2 (Post.trans h1 z)
/-- What a run hands back at its end. -/
noncomputable def endG (rs : List RR) (e : Exit) (T : Tr) (h : Heap) : Option Out := match e with
  | .normal => (match resE T h rs with | some l => some (retA l, h) | none => none)
  | .ret => (match resE T h rs with | some l => some (retA l, h) | none => none)
  | _ => none
theorem goto_con {fo : Nat → Nat → Nat → Bool} (hc : CallOK P call) {f : FuncId} {n K : Nat} {pre c rest : Code} {l : Nat} {rs : List ResultVar} (hF : FnOK P f (.seq pre (.scope c)) n rs) (hl : findLabel c l = some rest) {args : List AV} {v : AV} {h1 : Heap} (pa : isPure args = true) (pv : isPure [v] = true) (hla : args.length ≤ n)
    (e : runG P (fo f) n call F pre (args0T args 0) [] (fun e T h => match e with
      | .normal => runG P (fo f) n call F c T h (fun e T h => match e with | .goto l' => (match Nat.beq l' l with | true => backG (runG P (fo f) n call F rest) l (endG (rs.map (cR P))) K T h | false => none) | e => endG (rs.map (cR P)) e T h)
      | e => endG (rs.map (cR P)) e T h) = some (v, h1)) : hasBody P f = true ∧ Con P f args v := by
  have p : ∀ l : List AV, isPure l = true → PureL l := fun l hp => by
    unfold isPure at hp
    rw [allE_eq] at hp
    have : ∀ a ∈ l, Bd 0 a := fun a ha => by
      have := List.all_eq_true.1 hp a ha
      split at this
      · rename_i z; exact mxE_bd 0 a (by omega)
      · cases this
    have h2 : Pure (.agg l) := bd0_pure _ (by rw [Bd]; exact (bdL_iff 0 l).2 this)
    rw [Pure] at h2; exact h2
  have pv' := p [v] pv
  rw [PureL] at pv'
  refine ⟨hF.hb, p args pa, pv'.1, hF.acallW hla ?_⟩
  refine AW.mono2 (AW_seq ((runG_sound hc pre _ ⟨n, args0 args 0, []⟩ _ (v, h1) 0 rfl (fits_args args 0) e).mono fun ex st' k => ?_)) (Q := PostR n (endG (rs.map (cR P))) (v, h1)) fun ex st' hm k => ?_
  · obtain ⟨hn', T', hf', e'⟩ := k
    cases ex with
    | normal => exact scopeG_sound hc hl hn' hf' e'
    | exit i => exact ⟨hn', T', hf', e'⟩
    | goto l => exact ⟨hn', T', hf', e'⟩
    | ret => exact ⟨hn', T', hf', e'⟩
    | panic ch => exact ⟨hn', T', hf', e'⟩
    | outgrown => exact ⟨hn', T', hf', e'⟩
  · obtain ⟨hn', T', hf', e'⟩ := k
    have fin : (match resE T' st'.h (rs.map (cR P)) with | some l => some (retA l, st'.h) | none => none) = some (v, h1) → resA P st' rs fun l => ∃ r' h'', Wk 0 [retA l] st'.h [r'] h'' ∧ r' = v := by
      intro e'
      split at e'
      · rename_i l hl'
        simp only [Option.some.injEq, Prod.mk.injEq] at e'
        obtain ⟨rfl, rfl⟩ := e'
        exact resE_ok hf' rs l _ hl' ⟨_, _, Wk.refl _ _ _ (Nat.zero_le _), rfl⟩
      · cases e'
    cases ex with
    | normal => exact fin e'
    | ret => exact fin e'
    | exit i => cases e'
    | goto l => cases e'
    | panic ch => cases e'
    | outgrown => cases e'
end
end Go.Aw
