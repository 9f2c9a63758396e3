/-
  A statement whose order is open: where its operations leave the call's own memory alone, whatever order is taken comes to the same; one operation that does not may stand behind all others.
  No conditions: lemmas over any program.
-/
import Derived.Test.YtedaaincibcbkaaIvc
namespace Go.Aw
open Go Go.RowKit

theorem stepOp_congr {P : Program} {ev ev' : Operand → AV} {h : Heap} {op : Op} {K : AV → Heap → Prop} (he : ∀ x ∈ op.operands, ev x = ev' x) (k : stepOp P ev h op K) : stepOp P ev' h op K := by
  have lst : ∀ l : List Operand, (∀ x ∈ l, ev x = ev' x) → l.map ev = l.map ev' := fun l hl => List.map_congr_left hl
  cases op <;> simp only [Op.operands] at he <;> simp only [stepOp] at k ⊢
  case move x => rw [← he x (by simp)]; exact k
  case assign x => rw [← he x (by simp)]; exact k
  case pick c a b => rw [← he c (by simp), ← he a (by simp), ← he b (by simp)]; exact k
  case alloc t => exact k
  case box t x => rw [← he x (by simp)]; exact k
  case build t ps =>
    have e1 : ∀ (f g : Nat → Nat), (ps.toList.map fun p => (f p.1, g p.1, ev p.2)) = ps.toList.map fun p => (f p.1, g p.1, ev' p.2) := fun f g => List.map_congr_left fun p hp => by
      rw [he p.2 (by simp; exact ⟨p.1, by simpa using hp⟩)]
    split at k
    · rename_i fs z _ _
      rw [← e1 (fun i => ((fs[i]?).map (·.offset)).getD 0) (fun i => ((fs[i]?).map (fun f => P.cellsOf f.type)).getD 0)]
      exact k
    · rename_i n e z _ _
      rw [← e1 (fun i => i * P.cellsOf e) (fun _ => P.cellsOf e)]
      exact k
    · exact k
  case load t x => rw [← he x (by simp)]; exact k
  case store t x v => rw [← he x (by simp), ← he v (by simp)]; exact k
  case nilCheck x => rw [← he x (by simp)]; exact k
  case binOp o t x y yt => rw [← he x (by simp), ← he y (by simp)]; exact k
  case unOp o t x =>
    cases o <;> simp only [stepOp] at k ⊢
    case neg => rw [← he x (by simp)]; exact k
    case not => rw [← he x (by simp)]; exact k
  case convert s d x => rw [← he x (by simp)]; exact k
  case makeFunc f xs ys =>
    rw [← lst xs.toList fun x hx => he x (by simp at hx ⊢; exact .inl hx), ← lst ys.toList fun x hx => he x (by simp at hx ⊢; exact .inr hx)]; exact k
  case slice t x lo hi mx =>
    have e0 := he x (by simp)
    have e1 : lo.map ev = lo.map ev' := by cases lo <;> simp_all
    have e2 : hi.map ev = hi.map ev' := by cases hi <;> simp_all
    cases mx <;> simp only [stepOp] at k ⊢
    rw [← e0, ← e1, ← e2]; exact k
  case fieldAddr t x i => rw [← he x (by simp)]; exact k
  case field t x i => rw [← he x (by simp)]; exact k
  case indexAddr t x i => rw [← he x (by simp), ← he i (by simp)]; exact k
  case index t x i => rw [← he x (by simp), ← he i (by simp)]; exact k
  case extract x i => rw [← he x (by simp)]; exact k
  case call c =>
    have ea : ∀ x ∈ c.args, ev x = ev' x := fun x hx => he x (by simp [Call.operands]; exact .inr hx)
    have el : c.args.toList.map ev = c.args.toList.map ev' := lst _ fun x hx => ea x (by simpa using hx)
    cases hc : c.callee with
    | value x =>
      rw [hc] at k
      simp only at k ⊢
      rw [← el, ← he x (by simp [Call.operands, hc])]; exact k
    | invoke r m => rw [hc] at k; exact k
    | builtin b =>
      rw [hc] at k
      cases b <;> simp only at k ⊢ <;> (try exact k)
      case len =>
        cases h0 : c.argTypes[0]? <;> cases h1 : c.args[0]? <;> rw [h0, h1] at k <;> simp only at k ⊢
        rename_i t x
        rw [← ea x (Array.mem_of_getElem? h1)]; exact k
      case min =>
        split at k
        · rename_i x y hxy
          have m : ∀ z ∈ c.args.toList, ev z = ev' z := fun z hz => ea z (by simpa using hz)
          rw [hxy] at m
          rw [← m x (by simp), ← m y (by simp)]; exact k
        · exact k
      case max =>
        split at k
        · rename_i x y hxy
          have m : ∀ z ∈ c.args.toList, ev z = ev' z := fun z hz => ea z (by simpa using hz)
          rw [hxy] at m
          rw [← m x (by simp), ← m y (by simp)]; exact k
        · exact k

/-! ### One order for all -/
section
variable (P : Program) (ops : Array Oper) (h : Heap)

/-- Is it carried out? -/
def wantA (o : Oper) (fr : List AV) : Option Bool :=
  match o.guard with
  | none => some true
  | some (j, w) => match dstOf ops j with
    | some d => match fr[d]? with
      | some (.v (.bool b)) => some (b == w)
      | some (.v (.tuple x)) => if x = #[] then some false else none
      | _ => none
    | none => none

/-- It leaves 'x', and the call's own memory as it was. -/
def YA (o : Oper) (x : AV) (fr : List AV) : Prop :=
  (wantA ops o fr = some true ∧ stepOp P (evalA fr) h o.op fun v h' => v = x ∧ h' = h) ∨ (wantA ops o fr = some false ∧ x = .v undef)

def qA (i : Nat) (K : List AV → Prop) (fr : List AV) : Prop :=
  match ops[i]? with
  | none => K fr
  | some o => ∃ x, YA P ops h o x fr ∧ K (setFr fr o.dst x)

def AnyA (Q : List AV → Prop) : Nat → Array Bool → List AV → Prop
  | 0, listed, fr => Region.ready .any ops listed = [] ∧ Q fr
  | fuel + 1, listed, fr => (Region.ready .any ops listed = [] → Q fr) ∧ ∀ i ∈ Region.ready .any ops listed, qA P ops h i (AnyA Q fuel (listed.setIfInBounds i true)) fr

def LexA (Q : List AV → Prop) : List Oper → List AV → Prop
  | [], fr => Q fr
  | o :: r, fr => ∃ x, YA P ops h o x fr ∧ LexA Q r (setFr fr o.dst x)
end

section
variable {P : Program} {ops : Array Oper} {h : Heap}

theorem qA_mono {i : Nat} {K K' : List AV → Prop} {fr : List AV} (hk : ∀ fr, K fr → K' fr) (q : qA P ops h i K fr) : qA P ops h i K' fr := by
  unfold qA at *
  split
  · rename_i e; rw [e] at q; exact hk _ q
  · rename_i o e
    rw [e] at q
    obtain ⟨x, h1, h2⟩ := q
    exact ⟨x, h1, hk _ h2⟩

theorem setFr_get {fr : List AV} {d : Option Tmp} {x : AV} {t : Nat} (hd : ∀ e, d = some e → e ≠ t) : (setFr fr d x)[t]? = fr[t]? := by
  unfold setFr
  split
  · rename_i e; rw [List.getElem?_set_ne (hd e rfl)]
  · rfl
theorem setFr_comm {fr : List AV} {d e : Option Tmp} {x y : AV} (hd : ∀ t, d = some t → e ≠ some t) : setFr (setFr fr d x) e y = setFr (setFr fr e y) d x := by
  unfold setFr
  cases d with
  | none => cases e <;> rfl
  | some t =>
    cases e with
    | none => rfl
    | some u =>
      have : t ≠ u := fun q => hd t rfl (by rw [q])
      simp only
      rw [List.set_comm _ _ this]

theorem YA.same {o : Oper} {x : AV} {fr fr' : List AV} (hs : ∀ t ∈ o.looksAt ops, fr'[t]? = fr[t]?) (hy : YA P ops h o x fr) : YA P ops h o x fr' := by
  have hw : wantA ops o fr' = wantA ops o fr := by
    unfold wantA
    cases hg : o.guard with
    | none => rfl
    | some jw =>
      obtain ⟨j, w⟩ := jw
      simp only
      cases hd : dstOf ops j with
      | none => rfl
      | some d =>
        have : fr'[d]? = fr[d]? := hs d (by
          unfold Oper.looksAt
          refine List.mem_append_right _ ?_
          simp only [hg]
          unfold dstOf at hd
          rw [hd]; simp)
        simp only [this]
  have he : ∀ y ∈ o.op.operands, evalA fr y = evalA fr' y := by
    intro y hy
    cases y with
    | tmp t =>
      have : fr'[t]? = fr[t]? := hs t (by
        unfold Oper.looksAt
        refine List.mem_append_left _ ?_
        simp only [List.mem_filterMap]
        exact ⟨.tmp t, by simpa using hy, rfl⟩)
      simp [evalA, this]
    | _ => rfl
  unfold YA at *
  rw [hw]
  rcases hy with ⟨h1, h2⟩ | h1
  · exact .inl ⟨h1, stepOp_congr he h2⟩
  · exact .inr h1

theorem YA.put {o oj : Oper} {x y : AV} {fr : List AV} (hap : ∀ d, oj.dst = some d → d ∉ o.looksAt ops) (hy : YA P ops h o x fr) : YA P ops h o x (setFr fr oj.dst y) :=
  hy.same fun t ht => setFr_get fun e he q => hap e he (q ▸ ht)
theorem YA.unput {o oj : Oper} {x y : AV} {fr : List AV} (hap : ∀ d, oj.dst = some d → d ∉ o.looksAt ops) (hy : YA P ops h o x (setFr fr oj.dst y)) : YA P ops h o x fr :=
  hy.same fun t ht => (setFr_get fun e he q => hap e he (q ▸ ht)).symm

theorem qA_put {j : Nat} {oi oj : Oper} {x : AV} {K : List AV → Prop} {fr : List AV} (hj : ops[j]? = some oj) (hap : oi.apart ops oj = true) (hy : YA P ops h oi x fr) (q : qA P ops h j K (setFr fr oi.dst x)) :
    qA P ops h j (fun fr' => YA P ops h oi x fr' ∧ K (setFr fr' oi.dst x)) fr := by
  obtain ⟨h1, h2, h3⟩ := Oper.apart_spec hap
  unfold qA at *
  simp only [hj] at *
  obtain ⟨y, q1, q2⟩ := q
  refine ⟨y, q1.unput h1, hy.put h3, ?_⟩
  rw [setFr_comm (fun t ht => h2 t ht)] at q2
  exact q2

theorem anyA_first {Q : List AV → Prop} {i : Nat} {oi : Oper} {x : AV} (hi : ops[i]? = some oi) : ∀ (fuel : Nat) (listed : Array Bool) (fr : List AV),
    (∀ j oj, ops[j]? = some oj → j ≠ i → listed.getD j true = false → (∀ e ∈ oj.after, Region.binds .any e = true → e.on ≠ i) → oi.apart ops oj = true) →
    i ∈ Region.ready .any ops listed → YA P ops h oi x fr → AnyA P ops h Q fuel (listed.setIfInBounds i true) (setFr fr oi.dst x) → AnyA P ops h Q (fuel + 1) listed fr := by
  have own : ∀ {K : List AV → Prop} {fr : List AV}, YA P ops h oi x fr → K (setFr fr oi.dst x) → qA P ops h i K fr := fun hy hk => by unfold qA; simp only [hi]; exact ⟨x, hy, hk⟩
  intro fuel
  induction fuel with
  | zero =>
    intro listed fr _ hr hy H
    refine ⟨fun q => (by rw [q] at hr; cases hr), fun j hj => ?_⟩
    by_cases hji : j = i
    · subst hji; exact own hy H
    · have := ready_mono hj hji
      rw [H.1] at this; cases this
  | succ fuel ih =>
    intro listed fr hfree hr hy H
    refine ⟨fun q => (by rw [q] at hr; cases hr), fun j hj => ?_⟩
    by_cases hji : j = i
    · subst hji; exact own hy H
    · have h1 := H.2 j (ready_mono hj hji)
      obtain ⟨hjun, oj, hoj, hall⟩ := mem_ready.1 hj
      have hnot : ∀ e ∈ oj.after, Region.binds .any e = true → e.on ≠ i := fun e he hb heq => by
        have h1 := hall e he hb
        have h0 := (mem_ready.1 hr).1
        rw [heq] at h1
        rcases Nat.lt_or_ge i listed.size with h' | h'
        · simp [h'] at h0 h1; rw [h0] at h1; cases h1
        · simp [Array.getElem?_eq_none h'] at h1
      have h2 := qA_put hoj (hfree j oj hoj hji hjun hnot) hy h1
      have hfree' : ∀ k ok, ops[k]? = some ok → k ≠ i → (listed.setIfInBounds j true).getD k true = false →
          (∀ e ∈ ok.after, Region.binds .any e = true → e.on ≠ i) → oi.apart ops ok = true := fun k ok hk hki hun hno => by
        refine hfree k ok hk hki ?_ hno
        by_cases hjk : j = k
        · subst hjk; exact hjun
        · rw [getD_set_ne true hjk] at hun; exact hun
      refine qA_mono (fun fr' h3 => ih (listed.setIfInBounds j true) fr' hfree' (ready_mono hr (Ne.symm hji)) h3.1 ?_) h2
      rw [Array.setIfInBounds_comm _ _ hji]
      exact h3.2

theorem anyA_lex {Q : List AV → Prop} : ∀ (l : List Oper) (k : Nat) (listed : Array Bool) (fr : List AV), (∀ j, l[j]? = ops[k + j]?) →
    Region.lexFrom .any ops l.length k listed = true → LexA P ops h Q l fr → AnyA P ops h Q l.length listed fr
  | [], _, _, _, _, hB, q => ⟨by simpa [Region.lexFrom] using hB, q⟩
  | o :: l, k, listed, fr, hl, hB, q => by
    have h0 : ops[k]? = some o := by simpa using (hl 0).symm
    simp only [List.length_cons, Region.lexFrom, Bool.and_eq_true] at hB
    obtain ⟨⟨hr, hf⟩, hB'⟩ := hB
    obtain ⟨x, hy, hK⟩ := q
    exact anyA_first h0 l.length listed fr (Region.free_spec h0 hf) (by simpa using hr) hy
      (anyA_lex l (k + 1) _ _ (fun j => by have := hl (j + 1); simpa [Nat.add_assoc, Nat.add_comm 1 j] using this) hB' hK)

theorem wanted_of {base : Nat} {ι : List Nat} {S : Stab} {a : Act} {w : World} {fr : List AV} {o : Oper} {b : Bool} (hr : ROK base ι S a w ⟨fr, h⟩) (hw : wantA ops o fr = some b) : Region.wanted o (yielded ops a.tmps) = b := by
  unfold wantA at hw
  unfold Region.wanted
  cases hg : o.guard with
  | none => rw [hg] at hw; simp only [Option.some.injEq] at hw; exact hw
  | some jw =>
    obtain ⟨j, w'⟩ := jw
    rw [hg] at hw
    simp only at hw ⊢
    split at hw
    · rename_i d hd
      split at hw
      · rename_i b' hb
        rw [(yielded_of hr hd hb).1 b' rfl]
        simp only [Option.some.injEq] at hw
        rw [← hw]; cases b' <;> cases w' <;> rfl
      · rename_i x hx
        split at hw
        · rename_i e
          subst e
          rw [(yielded_of hr hd hx).2 rfl]
          simp only [Option.some.injEq] at hw
          rw [← hw]; rfl
        · cases hw
      · cases hw
    · cases hw

/-- One operation that leaves the call's own memory alone. -/
theorem qA_sound {m i base : Nat} {ι : List Nat} {S : Stab} {a : Act} {w : World} {fr : List AV} {K : List AV → Prop} {K' : Act → World → Prop} {Q' : Exit → Act → World → Prop} (hm : m ≤ ι.length) (hr : ROK base ι S a w ⟨fr, h⟩)
    (hk : ∀ ι' S' a' w' fr', Evo m base ι S w ι' S' w' → ROK base ι' S' a' w' ⟨fr', h⟩ → K fr' → K' a' w') (q : qA P ops h i K fr) : wpOp P ops Q' i K' a w := by
  unfold qA at q
  unfold wpOp
  split
  · rename_i e; rw [e] at q; exact hk ι S a w fr (Evo.refl _ _ _ _ _) hr q
  · rename_i o e
    rw [e] at q
    obtain ⟨x, hy, q⟩ := q
    rcases hy with ⟨hw, hy⟩ | ⟨hw, rfl⟩
    · rw [if_pos (wanted_of hr hw)]
      left
      refine wp_mono2 (fun a' w' k => ?_) (fun _ _ _ k => k) (sound_step (st := ⟨fr, h⟩) hr hy Q')
      obtain ⟨ι', S', v, h', hE, hR, hl, rfl, rfl⟩ := k
      exact hk ι' S' a' w' _ (hE.mono hm (Nat.le_refl _)) hR q
    · rw [wanted_of hr hw]
      simp only [Bool.false_eq_true, if_false]
      have p := hr.put (x := .v undef) (v := undef) o.dst (by simp)
      refine hk ι S _ w (setFr fr o.dst (.v undef)) (Evo.refl _ _ _ _ _) ?_ q
      cases hd : o.dst with
      | none => rw [hd] at p; exact p
      | some t => rw [hd] at p; exact p

theorem wpOp_mono2 {i : Nat} {a : Act} {w : World} {K K' : Act → World → Prop} {Q Q' : Exit → Act → World → Prop} (h1 : ∀ a w, K a w → K' a w) (h2 : ∀ e a w, Q e a w → Q' e a w) (q : wpOp P ops Q i K a w) : wpOp P ops Q' i K' a w := by
  unfold wpOp at *
  split
  · rename_i e; rw [e] at q; exact h1 _ _ q
  · rename_i o e
    rw [e] at q
    simp only at q
    split
    · rename_i hw
      rw [if_pos hw] at q
      rcases q with q | ⟨q, a0, w0, k⟩
      · exact .inl (wp_mono2 h1 h2 q)
      · exact .inr ⟨q, a0, w0, h2 _ _ _ k⟩
    · rename_i hw
      rw [if_neg hw] at q
      exact h1 _ _ q
theorem wpAny_mono {md : Region.Mode} {Q Q' : Exit → Act → World → Prop} (hq : ∀ e a w, Q e a w → Q' e a w) : ∀ (fuel : Nat) (listed : Array Bool) (a : Act) (w : World), wpAny P md ops Q fuel listed a w → wpAny P md ops Q' fuel listed a w
  | 0, _, _, _, q => ⟨q.1, hq _ _ _ q.2⟩
  | fuel + 1, listed, a, w, q => ⟨fun e => hq _ _ _ (q.1 e), fun i hi => wpOp_mono2 (fun a w => wpAny_mono hq fuel _ a w) hq (q.2 i hi)⟩

theorem anyA_sound {m : Nat} {Q : List AV → Prop} {Q' : Exit → St → Prop} (hQ : ∀ fr, Q fr → Q' .normal ⟨fr, h⟩) : ∀ (fuel : Nat) (listed : Array Bool) (base : Nat) (ι : List Nat) (S : Stab) (a : Act) (w : World) (fr : List AV),
    m ≤ h.length → ROK base ι S a w ⟨fr, h⟩ → AnyA P ops h Q fuel listed fr → wpAny P .any ops (Post m base ι S w Q') fuel listed a w
  | 0, listed, base, ι, S, a, w, fr, hm, hr, q => ⟨q.1, ι, S, ⟨fr, h⟩, Evo.refl _ _ _ _ _, hm, hr, hQ _ q.2⟩
  | fuel + 1, listed, base, ι, S, a, w, fr, hm, hr, q => by
    refine ⟨fun e => ⟨ι, S, ⟨fr, h⟩, Evo.refl _ _ _ _ _, hm, hr, hQ _ (q.1 e)⟩, fun i hi => ?_⟩
    refine qA_sound (m := m) (by rw [hr.hp.len]; exact hm) hr (fun ι' S' a' w' fr' hE hr' k => ?_) (q.2 i hi)
    have := anyA_sound hQ fuel (listed.setIfInBounds i true) base ι' S' a' w' fr' hm hr' k
    exact wpAny_mono (fun e a w z => Post.trans hE z) _ _ _ _ this

/-! ### One operation behind all others -/
/-- Whatever is listed, all that it waits for is listed. -/
def Down (ops : Array Oper) (listed : Array Bool) : Prop :=
  ∀ (i : Nat) (o : Oper), ops[i]? = some o → listed.getD i false = true → ∀ e ∈ o.after, Region.binds .any e = true → listed.getD e.on false = true

theorem Down.set {listed : Array Bool} {i : Nat} (hd : Down ops listed) (hr : i ∈ Region.ready .any ops listed) : Down ops (listed.setIfInBounds i true) := by
  intro j o ho hl e he hb
  obtain ⟨h0, oi, hoi, hall⟩ := mem_ready.1 hr
  have up : listed.getD e.on false = true → (listed.setIfInBounds i true).getD e.on false = true := fun q => by
    by_cases he : i = e.on
    · have hlt : i < listed.size := by
        rcases Nat.lt_or_ge i listed.size with k | k
        · exact k
        · rw [← he] at q; simp [Array.getElem?_eq_none k] at q
      rw [← he]; simp [Array.getD_eq_getD_getElem?, Array.getElem?_setIfInBounds, hlt]
    · rw [getD_set_ne false he]; exact q
  by_cases hj : j = i
  · subst hj
    rw [hoi] at ho; cases ho
    exact up (hall e he hb)
  · rw [getD_set_ne false (Ne.symm hj)] at hl
    exact up (hd j o ho hl e he hb)

def afterOf (ops : Array Oper) (i : Nat) : List Nat := match ops[i]? with | some o => (o.after.toList.filter (Region.binds .any)).map (·.on) | none => []
def clo (ops : Array Oper) : Nat → List Nat → List Nat
  | 0, l => l
  | k + 1, l => clo ops k (l ++ l.flatMap (afterOf ops)).eraseDups
theorem clo_listed {listed : Array Bool} (hd : Down ops listed) : ∀ (k : Nat) (l : List Nat), (∀ i ∈ l, listed.getD i false = true) → ∀ i ∈ clo ops k l, listed.getD i false = true
  | 0, l, hl, i, hi => hl i hi
  | k + 1, l, hl, i, hi => by
    refine clo_listed hd k _ (fun j hj => ?_) i hi
    rw [List.mem_eraseDups] at hj
    rcases List.mem_append.1 hj with hj | hj
    · exact hl j hj
    · obtain ⟨q, hq, hj⟩ := List.mem_flatMap.1 hj
      unfold afterOf at hj
      split at hj
      · rename_i o ho
        simp only [List.mem_map, List.mem_filter] at hj
        obtain ⟨e, ⟨he, hb⟩, rfl⟩ := hj
        exact hd q o ho (hl q hq) e (by simpa using he) hb
      · cases hj

/-- Operation 'T' waits for all others. -/
def lastB (ops : Array Oper) (T : Nat) : Bool := (List.range ops.size).all fun i => i == T || (clo ops ops.size (afterOf ops T)).contains i

theorem last_ready {listed : Array Bool} {T : Nat} (hd : Down ops listed) (hb : lastB ops T = true) (hr : T ∈ Region.ready .any ops listed) : ∀ i, i < ops.size → i ≠ T → listed.getD i false = true := by
  intro i hi hne
  obtain ⟨h0, o, ho, hall⟩ := mem_ready.1 hr
  have := List.all_eq_true.1 hb i (by simpa using hi)
  simp only [Bool.or_eq_true, beq_iff_eq, hne, false_or, List.contains_iff_mem] at this
  refine clo_listed hd ops.size _ (fun j hj => ?_) i this
  unfold afterOf at hj
  rw [ho] at hj
  simp only [List.mem_map, List.mem_filter] at hj
  obtain ⟨e, ⟨he, hb⟩, rfl⟩ := hj
  exact hall e (by simpa using he) hb

def AnyT (P : Program) (ops : Array Oper) (h : Heap) (T : Nat) (K : St → Prop) : Nat → Array Bool → List AV → Prop
  | 0, _, _ => False
  | fuel + 1, listed, fr => Region.ready .any ops listed ≠ [] ∧ ∀ i ∈ Region.ready .any ops listed,
      if i = T then Region.ready .any ops (listed.setIfInBounds T true) = [] ∧ (∃ o, ops[T]? = some o ∧ o.guard = none ∧ stepOp P (evalA fr) h o.op fun v h' => K ⟨setFr fr o.dst v, h'⟩)
      else qA P ops h i (AnyT P ops h T K fuel (listed.setIfInBounds i true)) fr

theorem anyT_first {T : Nat} {K : St → Prop} {i : Nat} {oi : Oper} {x : AV} (hB : lastB ops T = true) (hi : ops[i]? = some oi) (hT : i ≠ T) : ∀ (fuel : Nat) (listed : Array Bool) (fr : List AV), Down ops listed →
    (∀ j oj, ops[j]? = some oj → j ≠ i → j ≠ T → listed.getD j true = false → (∀ e ∈ oj.after, Region.binds .any e = true → e.on ≠ i) → oi.apart ops oj = true) →
    i ∈ Region.ready .any ops listed → YA P ops h oi x fr → AnyT P ops h T K fuel (listed.setIfInBounds i true) (setFr fr oi.dst x) → AnyT P ops h T K (fuel + 1) listed fr := by
  have own : ∀ {K : List AV → Prop} {fr : List AV}, YA P ops h oi x fr → K (setFr fr oi.dst x) → qA P ops h i K fr := fun hy hk => by unfold qA; simp only [hi]; exact ⟨x, hy, hk⟩
  intro fuel
  induction fuel with
  | zero => intro listed fr _ _ _ _ H; exact H.elim
  | succ fuel ih =>
    intro listed fr hd hfree hr hy H
    refine ⟨fun q => (by rw [q] at hr; cases hr), fun j hj => ?_⟩
    by_cases hjT : j = T
    · exfalso
      subst hjT
      have h0 := (mem_ready.1 hr).1
      have hlt : i < ops.size := (Array.getElem?_eq_some_iff.1 hi).1
      have h1 := last_ready hd hB hj i hlt hT
      rcases Nat.lt_or_ge i listed.size with h' | h'
      · simp [h'] at h0 h1; rw [h0] at h1; cases h1
      · simp [Array.getElem?_eq_none h'] at h1
    · rw [if_neg hjT]
      by_cases hji : j = i
      · subst hji; exact own hy H
      · have h1 := H.2 j (ready_mono hj hji)
        rw [if_neg hjT] at h1
        obtain ⟨hjun, oj, hoj, hall⟩ := mem_ready.1 hj
        have hnot : ∀ e ∈ oj.after, Region.binds .any e = true → e.on ≠ i := fun e he hb heq => by
          have h1 := hall e he hb
          have h0 := (mem_ready.1 hr).1
          rw [heq] at h1
          rcases Nat.lt_or_ge i listed.size with h' | h'
          · simp [h'] at h0 h1; rw [h0] at h1; cases h1
          · simp [Array.getElem?_eq_none h'] at h1
        have h2 := qA_put hoj (hfree j oj hoj hji hjT hjun hnot) hy h1
        have hfree' : ∀ k ok, ops[k]? = some ok → k ≠ i → k ≠ T → (listed.setIfInBounds j true).getD k true = false →
            (∀ e ∈ ok.after, Region.binds .any e = true → e.on ≠ i) → oi.apart ops ok = true := fun k ok hk hki hkT hun hno => by
          refine hfree k ok hk hki hkT ?_ hno
          by_cases hjk : j = k
          · subst hjk; exact hjun
          · rw [getD_set_ne true hjk] at hun; exact hun
        refine qA_mono (fun fr' h3 => ih (listed.setIfInBounds j true) fr' (hd.set hj) hfree' (ready_mono hr (Ne.symm hji)) h3.1 ?_) h2
        rw [Array.setIfInBounds_comm _ _ hji]
        exact h3.2

/-- Every other operation that has not come up waits for this one, or is apart from it. -/
def freeT (ops : Array Oper) (listed : Array Bool) (T i : Nat) : Bool :=
  match ops[i]? with
  | some oi => (List.range ops.size).all fun j => j == i || j == T || listed.getD j true || (afterOf ops j).contains i || (match ops[j]? with | some oj => oi.apart ops oj | none => true)
  | none => false
def lexT (ops : Array Oper) (T : Nat) : Nat → Nat → Array Bool → Bool
  | 0, _, listed => Region.ready .any ops listed == [T] && (Region.ready .any ops (listed.setIfInBounds T true)).isEmpty
  | fuel + 1, k, listed => (Region.ready .any ops listed).contains k && k != T && freeT ops listed T k && lexT ops T fuel (k + 1) (listed.setIfInBounds k true)

theorem freeT_spec {listed : Array Bool} {T i : Nat} {oi : Oper} (hi : ops[i]? = some oi) (hf : freeT ops listed T i = true) :
    ∀ j oj, ops[j]? = some oj → j ≠ i → j ≠ T → listed.getD j true = false → (∀ e ∈ oj.after, Region.binds .any e = true → e.on ≠ i) → oi.apart ops oj = true := by
  intro j oj hj hji hjT hun hno
  unfold freeT at hf
  rw [hi] at hf
  have := List.all_eq_true.1 hf j (by have := (Array.getElem?_eq_some_iff.1 hj).1; simpa using this)
  simp only [hj, Bool.or_eq_true, beq_iff_eq, hji, hjT, hun, false_or, Bool.false_eq_true] at this
  rcases this with h1 | h1
  · exfalso
    unfold afterOf at h1
    rw [hj] at h1
    simp only [List.contains_iff_mem, List.mem_map, List.mem_filter] at h1
    obtain ⟨e, ⟨he, hb⟩, q⟩ := h1
    exact hno e (by simpa using he) hb q
  · exact h1

theorem anyT_lex {T : Nat} {K : St → Prop} {oT : Oper} (hB : lastB ops T = true) (hoT : ops[T]? = some oT) (hg : oT.guard = none) : ∀ (l : List Oper) (k : Nat) (listed : Array Bool) (fr : List AV), (∀ j, j < l.length → l[j]? = ops[k + j]?) → Down ops listed →
    lexT ops T l.length k listed = true → LexA P ops h (fun fr => stepOp P (evalA fr) h oT.op fun v h' => K ⟨setFr fr oT.dst v, h'⟩) l fr → AnyT P ops h T K (l.length + 1) listed fr
  | [], k, listed, fr, _, _, hL, q => by
    simp only [List.length_nil, lexT, Bool.and_eq_true, beq_iff_eq] at hL
    refine ⟨by rw [hL.1]; simp, fun i hi => ?_⟩
    rw [hL.1] at hi
    simp only [List.mem_singleton] at hi
    rw [if_pos hi]
    exact ⟨by simpa using hL.2, oT, hoT, hg, q⟩
  | o :: l, k, listed, fr, hl, hd, hL, q => by
    have h0 : ops[k]? = some o := by simpa using (hl 0 (by simp)).symm
    simp only [List.length_cons, lexT, Bool.and_eq_true, bne_iff_ne, ne_eq] at hL
    obtain ⟨⟨⟨hr, hkT⟩, hf⟩, hL'⟩ := hL
    obtain ⟨x, hy, hK⟩ := q
    have hr' : k ∈ Region.ready .any ops listed := by simpa using hr
    exact anyT_first hB h0 hkT (l.length + 1) listed fr hd (freeT_spec h0 hf) hr' hy
      (anyT_lex hB hoT hg l (k + 1) _ _ (fun j hj => by have := hl (j + 1) (by simp; omega); simpa [Nat.add_assoc, Nat.add_comm 1 j] using this) (hd.set hr') hL' hK)

theorem anyT_sound {m T : Nat} {K : St → Prop} {Q' : Exit → St → Prop} (hQ : ∀ st, K st → Q' .normal st) : ∀ (fuel : Nat) (listed : Array Bool) (base : Nat) (ι : List Nat) (S : Stab) (a : Act) (w : World) (fr : List AV),
    m ≤ h.length → ROK base ι S a w ⟨fr, h⟩ → AnyT P ops h T K fuel listed fr → wpAny P .any ops (Post m base ι S w Q') fuel listed a w
  | 0, listed, base, ι, S, a, w, fr, hm, hr, q => q.elim
  | fuel + 1, listed, base, ι, S, a, w, fr, hm, hr, q => by
    refine ⟨fun e => absurd e q.1, fun i hi => ?_⟩
    have k := q.2 i hi
    by_cases hT : i = T
    · rw [if_pos hT] at k
      subst hT
      obtain ⟨hready, o, ho, hg, k⟩ := k
      unfold wpOp
      rw [ho]
      simp only
      rw [if_pos (by simp [Region.wanted, hg])]
      left
      refine wp_mono2 (fun a' w' z => ?_) (fun _ _ _ z => z) (sound_step (st := ⟨fr, h⟩) hr k (Post m base ι S w Q'))
      obtain ⟨ι', S', v, h', hE, hR, hl, kk⟩ := z
      have fin : Post m base ι S w Q' .normal a' w' := ⟨ι', S', _, hE.mono (by rw [hr.hp.len]; exact hm) (Nat.le_refl _), Nat.le_trans hm hl, hR, hQ _ kk⟩
      cases fuel with
      | zero => exact ⟨hready, fin⟩
      | succ fuel => exact ⟨fun _ => fin, fun j hj => by rw [hready] at hj; cases hj⟩
    · rw [if_neg hT] at k
      refine qA_sound (m := m) (by rw [hr.hp.len]; exact hm) hr (fun ι' S' a' w' fr' hE hr' z => ?_) k
      have := anyT_sound hQ fuel (listed.setIfInBounds i true) base ι' S' a' w' fr' hm hr' z
      exact wpAny_mono (fun e a w z => Post.trans hE z) _ _ _ _ this
end

/-! ### The condition on abstract values -/
/-- One operation that leaves the call's own memory alone: its value. -/
def iOne (S : (AV → Heap → Prop) → Prop) (h : Heap) (K : AV → Prop) : Prop := ∃ x, S (fun v h' => v = x ∧ h' = h) ∧ K x

def drawOps (P : Program) (ops : Array Oper) (h : Heap) : List Oper → Option (Nat × Bool × Bool) → List AV → (List AV → Prop) → Prop
  | [], _, fr, K => K fr
  | o :: r, mode, fr, K =>
    let yes (fr : List AV) (mode : Option (Nat × Bool × Bool)) : Prop := iOne (stepOp P (evalA fr) h o.op) h fun v => drawOps P ops h r (keepM ops o mode) (setFr fr o.dst v) K
    let no (fr : List AV) (mode : Option (Nat × Bool × Bool)) : Prop := drawOps P ops h r (keepM ops o mode) (setFr fr o.dst (.v undef)) K
    match o.guard with
    | none => yes fr mode
    | some (j, want) =>
      let ask : Prop := match dstOf ops j with
        | some d => match fr[d]? with
          | some c => iGuard c want (yes (fr.set d (.v (.bool want))) (some (j, want, true)))
              (no (fr.set d (match c with | .v (.bool _) => .v (.bool (!want)) | c => c)) (some (j, want, false)))
          | none => False
        | none => False
      match mode with
      | some (j', want', b) => if j' = j ∧ want' = want then (match b with | true => yes fr mode | false => no fr mode) else ask
      | none => ask

theorem set_self {fr : List AV} {d : Nat} {c : AV} (hc : fr[d]? = some c) : fr.set d c = fr := by
  refine List.ext_getElem? fun i => ?_
  by_cases hi : i = d
  · subst hi; rw [List.getElem?_set_self (List.getElem?_eq_some_iff.1 hc).1, hc]
  · rw [List.getElem?_set_ne (Ne.symm hi)]

theorem drawOps_lex {P : Program} {ops : Array Oper} {h : Heap} {K : List AV → Prop} : ∀ (l : List Oper) (mode : Option (Nat × Bool × Bool)) (fr : List AV), ModeOK ops fr mode → drawOps P ops h l mode fr K → LexA P ops h K l fr
  | [], _, fr, _, q => q
  | o :: r, mode, fr, hmo, q => by
    simp only [drawOps] at q
    have yes : ∀ {mode' : Option (Nat × Bool × Bool)}, ModeOK ops fr mode' → wantA ops o fr = some true → iOne (stepOp P (evalA fr) h o.op) h (fun v => drawOps P ops h r (keepM ops o mode') (setFr fr o.dst v) K) → LexA P ops h K (o :: r) fr := by
      rintro mode' hm hw ⟨x, h1, h2⟩
      exact ⟨x, .inl ⟨hw, h1⟩, drawOps_lex r _ _ (hm.keep o x) h2⟩
    have no : ∀ {mode' : Option (Nat × Bool × Bool)}, ModeOK ops fr mode' → wantA ops o fr = some false → drawOps P ops h r (keepM ops o mode') (setFr fr o.dst (.v undef)) K → LexA P ops h K (o :: r) fr := by
      intro mode' hm hw h2
      exact ⟨.v undef, .inr ⟨hw, rfl⟩, drawOps_lex r _ _ (hm.keep o _) h2⟩
    cases hg : o.guard with
    | none =>
      rw [hg] at q
      exact yes hmo (by simp [wantA, hg]) q
    | some jw =>
      obtain ⟨j, want⟩ := jw
      rw [hg] at q
      simp only at q
      have ask : (match dstOf ops j with
          | some d => match fr[d]? with
            | some c => iGuard c want
              (iOne (stepOp P (evalA (fr.set d (.v (.bool want)))) h o.op) h fun v => drawOps P ops h r (keepM ops o (some (j, want, true))) (setFr (fr.set d (.v (.bool want))) o.dst v) K)
              (drawOps P ops h r (keepM ops o (some (j, want, false))) (setFr (fr.set d (match c with | .v (.bool _) => .v (.bool (!want)) | c => c)) o.dst (.v undef)) K)
            | none => False
          | none => False) → LexA P ops h K (o :: r) fr := by
        intro q
        split at q
        · rename_i d hd
          split at q
          · rename_i c hc
            rcases q with ⟨t, rfl, g1, g2⟩ | ⟨rfl, g2⟩
            · by_cases ht : t = want
              · subst ht
                have g := g1 rfl
                rw [set_self hc] at g
                exact yes (mode' := some (j, t, true)) ⟨d, _, hd, hc, rfl⟩ (by simp [wantA, hg, hd, hc]) g
              · have ht' : t = !want := by cases t <;> cases want <;> simp_all
                have g := g2 ht'
                simp only at g
                rw [← ht', set_self hc] at g
                exact no (mode' := some (j, want, false)) ⟨d, _, hd, hc, .inl (by rw [ht'])⟩ (by simp [wantA, hg, hd, hc, ht]) g
            · have g := g2
              have e : (match (AV.v undef) with | .v (.bool _) => AV.v (.bool (!want)) | c => c) = AV.v undef := rfl
              rw [e, set_self hc] at g
              exact no (mode' := some (j, want, false)) ⟨d, _, hd, hc, .inr rfl⟩ (by unfold wantA; simp only [hg, hd, hc]; rfl) g
          · exact q.elim
        · exact q.elim
      split at q
      · rename_i j' want' b
        split at q
        · rename_i he
          obtain ⟨rfl, rfl⟩ := he
          obtain ⟨d, c, h1, h2, h3⟩ := hmo
          cases b with
          | true =>
            simp only at h3
            exact yes (mode' := some (j', want', true)) ⟨d, c, h1, h2, h3⟩ (by simp [wantA, hg, h1, h2, h3]) q
          | false =>
            simp only at h3
            refine no (mode' := some (j', want', false)) ⟨d, c, h1, h2, h3⟩ ?_ q
            rcases h3 with h3 | h3
            · unfold wantA; simp only [hg, h1, h2, h3]; cases want' <;> rfl
            · unfold wantA; simp only [hg, h1, h2, h3]; rfl
        · exact ask q
      · exact ask q

/-- It may write the call's own memory. -/
def loud (o : Oper) : Bool :=
  match o.op with
  | .store .. => true
  | .call c => (match c.callee with | .value _ => true | .builtin .append => true | _ => false)
  | _ => false
def drawB (P : Program) (ops : Array Oper) : Bool := P.follows .mixedOrders && Region.lexFrom .any ops ops.size 0 (Array.replicate ops.size false)
def tailB (P : Program) (ops : Array Oper) : Bool :=
  P.follows .mixedOrders && (match ops[ops.size - 1]? with
    | some o => loud o && o.guard.isNone && lastB ops (ops.size - 1) && lexT ops (ops.size - 1) (ops.size - 1) 0 (Array.replicate ops.size false)
    | none => false)
/-- A statement whose order is open. -/
def drawVC (P : Program) (ops : Array Oper) (Q : Exit → St → Prop) (st : St) : Prop :=
  match tailB P ops, ops[ops.size - 1]? with
  | true, some o => drawOps P ops st.h (ops.toList.take (ops.size - 1)) none st.fr fun fr => stepOp P (evalA fr) st.h o.op fun v h' => Q .normal ⟨setFr fr o.dst v, h'⟩
  | _, _ => req (drawB P ops) (drawOps P ops st.h ops.toList none st.fr fun fr => Q .normal ⟨fr, st.h⟩)

theorem ROK.drew {base : Nat} {ι : List Nat} {S : Stab} {a : Act} {w : World} {st : St} (hr : ROK base ι S a w st) : Evo ι.length base ι S w ι S { w with drawn := w.drawn + 1 } ∧ ROK base ι S a { w with drawn := w.drawn + 1 } st := by
  have hE : Evo ι.length base ι S w ι S { w with drawn := w.drawn + 1 } := ⟨fun _ _ => rfl, fun _ _ h => h, fun _ _ h => .inl h, fun _ _ _ => rfl, fun _ _ h => h, (Below.refl base w).drew⟩
  refine ⟨hE, hr.df, RepL.evo hE (Nat.le_refl _) _ _ hr.fr, ⟨hr.hp.len, fun id x e => ?_, hr.hp.inj, hr.hp.stb, hr.hp.bas⟩⟩
  obtain ⟨b, arr, fz, h1, h2, h3, h4, h5, h6, h7, h8, h9⟩ := hr.hp.live id x e
  exact ⟨b, arr, fz, h1, h2, h3, h4, h5, fun i c e => let ⟨v, e1, e2⟩ := h6 i c e; ⟨v, e1, Rep.evo hE (Nat.le_refl _) c v e2⟩, h7, h8, h9⟩

theorem sound_draw {P : Program} {m id : Nat} {ops : Array Oper} {Q : Exit → St → Prop} {st : St} (q : drawVC P ops Q st) : AW P m (.region id ops true) Q st := by
  intro base ι S a w hm hr
  obtain ⟨hE, hr'⟩ := hr.drew
  have up : ∀ {X : Exit → Act → World → Prop}, True := trivial
  have fin : wpAny P .any ops (Post m base ι S { w with drawn := w.drawn + 1 } Q) ops.size (Array.replicate ops.size false) a { w with drawn := w.drawn + 1 } → P.follows .mixedOrders = true →
      (Code.region id ops true).wp P (Post m base ι S w Q) a w := fun h1 h2 =>
    wp_region_any h2 (wpAny_mono (fun e a w z => Post.trans (hE.mono (by rw [hr.hp.len]; exact hm) (Nat.le_refl _)) z) _ _ _ _ h1)
  have down0 : Down ops (Array.replicate ops.size false) := fun i o ho hl => by
    have hlt := (Array.getElem?_eq_some_iff.1 ho).1
    simp [hlt] at hl
  unfold drawVC at q
  split at q
  · rename_i o hT hoT
    simp only [tailB, Bool.and_eq_true, hoT] at hT
    obtain ⟨hm', ⟨⟨⟨_, hg⟩, hL⟩, hX⟩⟩ := hT
    have hsz : 0 < ops.size := by
      have := (Array.getElem?_eq_some_iff.1 hoT).1; omega
    have hlen : (ops.toList.take (ops.size - 1)).length = ops.size - 1 := by simp
    have lex := drawOps_lex _ none st.fr trivial q
    have any := anyT_lex (P := P) (h := st.h) (K := Q .normal) hL hoT (by simpa using hg) (ops.toList.take (ops.size - 1)) 0 (Array.replicate ops.size false) st.fr (fun j hj => by
      rw [hlen] at hj
      simp [List.getElem?_take, hj]) down0 (by rw [hlen]; exact hX) lex
    rw [hlen, Nat.sub_add_cancel hsz] at any
    exact fin (anyT_sound (m := m) (fun st k => k) ops.size _ base ι S a _ st.fr hm hr' any) hm'
  · obtain ⟨hB, q⟩ := req_iff q
    simp only [drawB, Bool.and_eq_true] at hB
    have lex := drawOps_lex _ none st.fr trivial q
    have any := anyA_lex (P := P) (h := st.h) ops.toList 0 (Array.replicate ops.size false) st.fr (by simp) (by simpa using hB.2) lex
    exact fin (anyA_sound (m := m) (Q := fun fr => Q .normal ⟨fr, st.h⟩) (fun fr k => k) ops.size _ base ι S a _ st.fr hm hr' (by simpa using any)) hB.1
end Go.Aw
