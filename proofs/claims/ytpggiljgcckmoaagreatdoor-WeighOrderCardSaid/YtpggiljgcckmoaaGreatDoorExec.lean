/-
  Code at known values, in a form that the kernel runs; and that the model does what it says.
  No conditions: definitions and lemmas over any program.
-/
import Derived.Test.YtpggiljgcckmoaaGreatDoorRun
namespace Go.Aw
open Go Go.RowKit
variable [Laid]

abbrev Out := AV × Heap
inductive RGd where
  | all
  | when (p : Pa) (w : Bool)
  | bad
inductive RG where
  | mk (d : Option Pa) (g : RGd) (o : ROp)
def RG.d (g : RG) : Option Pa := match g with | .mk d _ _ => d
def fitsD (n : Nat) (d : Option Tmp) : Bool := match d with | some t => Nat.ble (t + 1) n | none => true
def cG (P : Program) (own : Bool) (n : Nat) (ops : Array Oper) (o : Oper) : RG :=
  .mk (o.dst.map paN)
    (match fitsD n o.dst, o.guard with
    | false, _ => .bad
    | true, none => .all
    | true, some (j, w) => (match dstOf ops j with | some d => .when (paN d) w | none => .bad))
    (cOp P own o.op)
noncomputable def eG (call : CallF) (g : RG) (T : Tr) (h : Heap) : Option (AV × Option Heap) :=
  match g with
  | .mk _ gd o => match gd with
    | .all => eR call o T h
    | .when p w => (match getP p T with
      | .v (.bool b) => (match b, w with
        | true, true => eR call o T h
        | false, false => eR call o T h
        | _, _ => some (.v undef, none))
      | .v (.tuple x) => (match x.toList with | [] => some (.v undef, none) | _ => none)
      | _ => none)
    | .bad => none

section
variable {P : Program} {call : CallF} {own : Bool} {n : Nat} {ops : Array Oper} {o : Oper} {T : Tr} {h : Heap} {v : AV} {oh : Option Heap} {fr : Fr}
theorem eG_ok (hc : CallOK P call) (hf : Fits fr T) (e : eG call (cG P own n ops o) T h = some (v, oh)) : YO P ops n h (oh.getD h) o v fr ∧ ∀ d : Nat, o.dst = some d → d < n := by
  unfold cG at e
  simp only [eG] at e
  have run : eR call (cOp P own o.op) T h = some (v, oh) → SemS P n h o fr fun v' h' => v' = v ∧ h' = oh.getD h := fun e => eR_sem (own := own) hc (evR_eq hf) e ⟨rfl, rfl⟩
  have fd : fitsD n o.dst = true → ∀ d : Nat, o.dst = some d → d < n := fun q d hd => by
    rw [hd] at q; simp only [fitsD, Nat.ble_eq] at q; omega
  cases hfd : fitsD n o.dst with
  | false => rw [hfd] at e; simp at e
  | true =>
    rw [hfd] at e
    refine ⟨?_, fd hfd⟩
    cases hg : o.guard with
    | none => rw [hg] at e; simp only at e; exact .inl ⟨by simp [wantA, hg], run e⟩
    | some jw =>
      obtain ⟨j, w⟩ := jw
      rw [hg] at e
      simp only at e
      cases hd : dstOf ops j with
      | none => rw [hd] at e; simp at e
      | some d =>
        rw [hd] at e
        simp only at e
        have hgd := hf d
        split at e
        · rename_i b hb
          rw [hb] at hgd
          cases b <;> cases w <;> simp only at e
          · exact .inl ⟨by simp [wantA, hg, hd, hgd], run e⟩
          · cases e; exact .inr ⟨by simp [wantA, hg, hd, hgd], rfl, rfl⟩
          · cases e; exact .inr ⟨by simp [wantA, hg, hd, hgd], rfl, rfl⟩
          · exact .inl ⟨by simp [wantA, hg, hd, hgd], run e⟩
        · rename_i x hb
          rw [hb] at hgd
          split at e
          · rename_i hx
            cases e
            have hx : x = #[] := by cases x; simp at hx; rw [hx]
            exact .inr ⟨by simp [wantA, hg, hd, hgd, hx], rfl, rfl⟩
          · cases e
        · cases e
omit [Laid] in
theorem Fits.set {d : Option Tmp} {x : AV} (hf : Fits fr T) (hd : ∀ t : Nat, d = some t → t < n) : Fits (setFr n fr d x) (putO (d.map paN) x T) := by
  cases d with
  | none => exact hf
  | some t =>
    simp only [setFr, hd t rfl, if_true, Option.map_some, putO]
    exact hf.put t x
end

/-! ### Operations in a row -/
noncomputable def runReg (call : CallF) (l : List RG) : Tr → Heap → (Tr → Heap → Option Out) → Option Out :=
  List.rec (motive := fun _ => Tr → Heap → (Tr → Heap → Option Out) → Option Out) (fun T h k => k T h)
    (fun g _ ih T h k => match eG call g T h with
      | some p => (match p.2 with | none => ih (putO g.d p.1 T) h k | some h' => ih (putO g.d p.1 T) h' k)
      | none => none) l
def cGs (P : Program) (own : Nat → Bool) (n : Nat) (ops : Array Oper) : Nat → List Oper → List RG
  | _, [] => []
  | i, o :: r => cG P (own i) n ops o :: cGs P own n ops (i + 1) r

/-- What code comes to, told of trees. -/
def PostR (n : Nat) (q : Exit → Tr → Heap → Option Out) (r : Out) : Exit → St → Prop := fun e st' => st'.n = n ∧ ∃ T', Fits st'.fr T' ∧ q e T' st'.h = some r

section
variable {P : Program} {call : CallF} {own : Nat → Bool} {n : Nat} {ops : Array Oper} {m : Nat} {r : Out}
theorem reg_sound (hc : CallOK P call) {k : Tr → Heap → Option Out} {Q : Exit → St → Prop} (hQ : ∀ st' T', st'.n = n → Fits st'.fr T' → k T' st'.h = some r → Q .normal st') : ∀ (l : List Oper) (i : Nat) (base : Nat) (ι : List Ix) (S : Stab) (a : Act) (w : World) (fr : Fr) (h : Heap) (T : Tr),
    (∀ j, j < l.length → ops[i + j]? = l[j]?) → m ≤ h.length → ROK base ι S a w ⟨n, fr, h⟩ → Fits fr T → runReg call (cGs P own n ops i l) T h k = some r → wpOps P ops (Post m base ι S w Q) (List.range' i l.length) a w
  | [], i, base, ι, S, a, w, fr, h, T, _, hm, hr, hf, e => ⟨ι, S, ⟨n, fr, h⟩, Evo.refl _ _ _ _ _, hm, hr, hQ _ T rfl hf e⟩
  | o :: l, i, base, ι, S, a, w, fr, h, T, hl, hm, hr, hf, e => by
    have h0 : ops[i]? = some o := by simpa using hl 0 (by simp)
    rw [List.length_cons, List.range'_succ, wpOps_cons]
    simp only [cGs, runReg] at e
    cases eg : eG call (cG P (own i) n ops o) T h with
    | none => rw [eg] at e; simp at e
    | some p =>
      obtain ⟨v, oh⟩ := p
      obtain ⟨hy, hd⟩ := eG_ok hc hf eg
      rw [eg] at e
      simp only at e
      refine hy.sound h0 hr fun ι' S' a' w' hE hlen hr' => ?_
      have hf' : Fits (setFr n fr o.dst v) (putO (RG.d (cG P (own i) n ops o)) v T) := hf.set hd
      have key : ∀ h2, oh.getD h = h2 → runReg call (cGs P own n ops (i + 1) l) (putO (RG.d (cG P (own i) n ops o)) v T) h2 k = some r → wpOps P ops (Post m base ι S w Q) (List.range' (i + 1) l.length) a' w' := by
        rintro h2 rfl e2
        have := reg_sound hc hQ l (i + 1) base ι' S' a' w' _ _ _ (fun j hj => by have := hl (j + 1) (by simp; omega); simpa [Nat.add_assoc, Nat.add_comm 1 j] using this) (by omega) hr' hf' e2
        exact wpOps_mono (fun e a w z => Post.trans (hE.mono (by rw [hr.hp.len]; exact hm) (Nat.le_refl _)) z) _ _ _ this
      cases oh with
      | none => exact key _ rfl e
      | some h' => exact key _ rfl e
end

/-! ### Operations in an open order -/
noncomputable def beqV (x y : Value) : Bool :=
  match x, y with
  | .bool a, .bool b => a == b
  | .int k a, .int k' b => (match kEq k k' with | true => eqI a b | false => false)
  | .pointer none, .pointer none => true
  | .nilFunc, .nilFunc => true
  | .nilIface, .nilIface => true
  | .slice none 0 0, .slice none 0 0 => true
  | .tuple a, .tuple b => (match a.toList, b.toList with | [], [] => true | _, _ => false)
  | _, _ => false
/-- The same value; false where that is not seen at once. -/
noncomputable def beqA (a : AV) : AV → Bool :=
  AV.rec (motive_1 := fun _ => AV → Bool) (motive_2 := fun _ => List AV → Bool) (motive_3 := fun _ => List (List AV) → Bool)
    (fun x b => match b with | .v y => beqV x y | _ => false)
    (fun l b => match b with | .str m => eqL l m | _ => false)
    (fun b => match b with | .any => true | _ => false)
    (fun _ ih b => match b with | .agg ds => ih ds | _ => false)
    (fun _ ih b => match b with | .tup ds => ih ds | _ => false)
    (fun b => match b with | .emp => true | _ => false)
    (fun sz _ ih b => match b with | .sl sz' rows => (match Nat.beq sz sz' with | true => ih rows | false => false) | _ => false)
    (fun id sz _ ih b => match b with | .sb id' sz' rows => (match Nat.beq id id', Nat.beq sz sz' with | true, true => ih rows | _, _ => false) | _ => false)
    (fun _ ih b => match b with | .ip ds => ih ds | _ => false)
    (fun id off len sz b => match b with | .own id' off' len' sz' => (match Nat.beq id id', Nat.beq off off', Nat.beq len len', Nat.beq sz sz' with | true, true, true, true => true | _, _, _, _ => false) | _ => false)
    (fun id off b => match b with | .op id' off' => (match Nat.beq id id', Nat.beq off off' with | true, true => true | _, _ => false) | _ => false)
    (fun f _ _ ih1 ih2 b => match b with | .fn g xs ys => (match f, g with | .func i, .func j => (match Nat.beq i j, ih1 xs, ih2 ys with | true, true, true => true | _, _, _ => false) | _, _ => false) | _ => false)
    (fun t _ ih b => match b with | .ifc t' y => (match Nat.beq t t' with | true => ih y | false => false) | _ => false)
    (fun b => match b with | [] => true | _ => false)
    (fun _ _ ih1 ih2 b => match b with | [] => false | y :: ys => (match ih1 y with | true => ih2 ys | false => false))
    (fun b => match b with | [] => true | _ => false)
    (fun _ _ ih1 ih2 b => match b with | [] => false | y :: ys => (match ih1 y with | true => ih2 ys | false => false)) a
omit [Laid] in
theorem beqV_eq {x y : Value} (h : beqV x y = true) : x = y := by
  unfold beqV at h
  split at h
  · simpa using h
  · split at h
    · rename_i e; rw [eqI_eq] at h; rw [kEq_eq e, of_decide_eq_true h]
    · cases h
  · rfl
  · rfl
  · rfl
  · rfl
  · rename_i a b
    cases a; cases b
    split at h
    · rename_i e1 e2; simp only at e1 e2; rw [e1, e2]
    · cases h
  · cases h
omit [Laid] in
theorem beqA_eq (a : AV) : ∀ b, beqA a b = true → a = b := by
  refine AV.rec (motive_1 := fun a => ∀ b, beqA a b = true → a = b)
    (motive_2 := fun l => ∀ m : List AV, (AV.rec_1 (motive_1 := fun _ => AV → Bool) (motive_2 := fun _ => List AV → Bool) (motive_3 := fun _ => List (List AV) → Bool) (fun x b => match b with | .v y => beqV x y | _ => false)
    (fun l b => match b with | .str m => eqL l m | _ => false)
    (fun b => match b with | .any => true | _ => false)
    (fun _ ih b => match b with | .agg ds => ih ds | _ => false)
    (fun _ ih b => match b with | .tup ds => ih ds | _ => false)
    (fun b => match b with | .emp => true | _ => false)
    (fun sz _ ih b => match b with | .sl sz' rows => (match Nat.beq sz sz' with | true => ih rows | false => false) | _ => false)
    (fun id sz _ ih b => match b with | .sb id' sz' rows => (match Nat.beq id id', Nat.beq sz sz' with | true, true => ih rows | _, _ => false) | _ => false)
    (fun _ ih b => match b with | .ip ds => ih ds | _ => false)
    (fun id off len sz b => match b with | .own id' off' len' sz' => (match Nat.beq id id', Nat.beq off off', Nat.beq len len', Nat.beq sz sz' with | true, true, true, true => true | _, _, _, _ => false) | _ => false)
    (fun id off b => match b with | .op id' off' => (match Nat.beq id id', Nat.beq off off' with | true, true => true | _, _ => false) | _ => false)
    (fun f _ _ ih1 ih2 b => match b with | .fn g xs ys => (match f, g with | .func i, .func j => (match Nat.beq i j, ih1 xs, ih2 ys with | true, true, true => true | _, _, _ => false) | _, _ => false) | _ => false)
    (fun t _ ih b => match b with | .ifc t' y => (match Nat.beq t t' with | true => ih y | false => false) | _ => false)
    (fun b => match b with | [] => true | _ => false)
    (fun _ _ ih1 ih2 b => match b with | [] => false | y :: ys => (match ih1 y with | true => ih2 ys | false => false))
    (fun b => match b with | [] => true | _ => false)
    (fun _ _ ih1 ih2 b => match b with | [] => false | y :: ys => (match ih1 y with | true => ih2 ys | false => false)) l m) = true → l = m)
    (motive_3 := fun l => ∀ m : List (List AV), (AV.rec_2 (motive_1 := fun _ => AV → Bool) (motive_2 := fun _ => List AV → Bool) (motive_3 := fun _ => List (List AV) → Bool) (fun x b => match b with | .v y => beqV x y | _ => false)
    (fun l b => match b with | .str m => eqL l m | _ => false)
    (fun b => match b with | .any => true | _ => false)
    (fun _ ih b => match b with | .agg ds => ih ds | _ => false)
    (fun _ ih b => match b with | .tup ds => ih ds | _ => false)
    (fun b => match b with | .emp => true | _ => false)
    (fun sz _ ih b => match b with | .sl sz' rows => (match Nat.beq sz sz' with | true => ih rows | false => false) | _ => false)
    (fun id sz _ ih b => match b with | .sb id' sz' rows => (match Nat.beq id id', Nat.beq sz sz' with | true, true => ih rows | _, _ => false) | _ => false)
    (fun _ ih b => match b with | .ip ds => ih ds | _ => false)
    (fun id off len sz b => match b with | .own id' off' len' sz' => (match Nat.beq id id', Nat.beq off off', Nat.beq len len', Nat.beq sz sz' with | true, true, true, true => true | _, _, _, _ => false) | _ => false)
    (fun id off b => match b with | .op id' off' => (match Nat.beq id id', Nat.beq off off' with | true, true => true | _, _ => false) | _ => false)
    (fun f _ _ ih1 ih2 b => match b with | .fn g xs ys => (match f, g with | .func i, .func j => (match Nat.beq i j, ih1 xs, ih2 ys with | true, true, true => true | _, _, _ => false) | _, _ => false) | _ => false)
    (fun t _ ih b => match b with | .ifc t' y => (match Nat.beq t t' with | true => ih y | false => false) | _ => false)
    (fun b => match b with | [] => true | _ => false)
    (fun _ _ ih1 ih2 b => match b with | [] => false | y :: ys => (match ih1 y with | true => ih2 ys | false => false))
    (fun b => match b with | [] => true | _ => false)
    (fun _ _ ih1 ih2 b => match b with | [] => false | y :: ys => (match ih1 y with | true => ih2 ys | false => false)) l m) = true → l = m) ?_ ?_ ?_ ?_ ?_ ?_ ?_ ?_ ?_ ?_ ?_ ?_ ?_ ?_ ?_ ?_ ?_ a
  · intro x b h; unfold beqA at h; simp only at h; split at h
    · rw [beqV_eq h]
    · cases h
  · intro l b h; unfold beqA at h; simp only at h; split at h
    · rw [eqL_eq] at h; rw [of_decide_eq_true h]
    · cases h
  · intro b h; unfold beqA at h; simp only at h; split at h
    · rfl
    · cases h
  · intro cs ih b h; unfold beqA at h; simp only at h; split at h
    · rw [ih _ h]
    · cases h
  · intro cs ih b h; unfold beqA at h; simp only at h; split at h
    · rw [ih _ h]
    · cases h
  · intro b h; unfold beqA at h; simp only at h; split at h
    · rfl
    · cases h
  · intro sz rows ih b h; unfold beqA at h; simp only at h; split at h
    · split at h
      · rename_i e; rw [ih _ h, Nat.eq_of_beq_eq_true e]
      · cases h
    · cases h
  · intro id sz rows ih b h; unfold beqA at h; simp only at h; split at h
    · split at h
      · rename_i e1 e2; rw [ih _ h, Nat.eq_of_beq_eq_true e1, Nat.eq_of_beq_eq_true e2]
      · cases h
    · cases h
  · intro cs ih b h; unfold beqA at h; simp only at h; split at h
    · rw [ih _ h]
    · cases h
  · intro id off len sz b h; unfold beqA at h; simp only at h; split at h
    · split at h
      · rename_i e1 e2 e3 e4; rw [Nat.eq_of_beq_eq_true e1, Nat.eq_of_beq_eq_true e2, Nat.eq_of_beq_eq_true e3, Nat.eq_of_beq_eq_true e4]
      · cases h
    · cases h
  · intro id off b h; unfold beqA at h; simp only at h; split at h
    · split at h
      · rename_i e1 e2; rw [Nat.eq_of_beq_eq_true e1, Nat.eq_of_beq_eq_true e2]
      · cases h
    · cases h
  · intro f xs ys ih1 ih2 b h; unfold beqA at h; simp only at h; split at h
    · split at h
      · split at h
        · rename_i e1 e2 e3; rw [Nat.eq_of_beq_eq_true e1, ih1 _ e2, ih2 _ e3]
        · cases h
      · cases h
    · cases h
  · intro t x ih b h; unfold beqA at h; simp only at h; split at h
    · split at h
      · rename_i e; rw [ih _ h, Nat.eq_of_beq_eq_true e]
      · cases h
    · cases h
  · intro m h; simp only at h; split at h
    · rfl
    · cases h
  · intro x l ih1 ih2 m h; simp only at h; split at h
    · cases h
    · split at h
      · rename_i e; rw [ih1 _ e, ih2 _ h]
      · cases h
  · intro m h; simp only at h; split at h
    · rfl
    · cases h
  · intro x l ih1 ih2 m h; simp only at h; split at h
    · cases h
    · split at h
      · rename_i e; rw [ih1 _ e, ih2 _ h]
      · cases h
noncomputable def beqEnt (x y : Ent) : Bool :=
  match x, y with
  | .blk a, .blk b => (match Nat.beq a.ty b.ty, a.wr, b.wr, beqA (.agg a.cells) (.agg b.cells) with | true, true, true, true => true | _, _, _, _ => false)
  | .tok e s n, .tok e' s' n' => (match Nat.beq e e', Nat.beq s s', Nat.beq n n' with | true, true, true => true | _, _, _ => false)
  | .dead, .dead => true
  | _, _ => false
noncomputable def beqH (h : Heap) : Heap → Bool := List.rec (motive := fun _ => Heap → Bool) (fun g => match g with | [] => true | _ => false) (fun x _ ih g => match g with | [] => false | y :: g => (match beqEnt x y with | true => ih g | false => false)) h
omit [Laid] in
theorem beqEnt_eq {x y : Ent} (h : beqEnt x y = true) : x = y := by
  unfold beqEnt at h
  split at h
  · rename_i a b
    split at h
    · rename_i e1 e2 e3 e4
      have e4 := beqA_eq _ _ e4
      cases a; cases b
      simp only at e1 e2 e3 e4
      cases e4
      rw [Nat.eq_of_beq_eq_true e1, e2, e3]
    · cases h
  · split at h
    · rename_i e1 e2 e3; rw [Nat.eq_of_beq_eq_true e1, Nat.eq_of_beq_eq_true e2, Nat.eq_of_beq_eq_true e3]
    · cases h
  · rfl
  · cases h
omit [Laid] in
theorem beqH_eq : ∀ (h g : Heap), beqH h g = true → h = g
  | [], [], _ => rfl
  | [], _ :: _, h => by cases h
  | _ :: _, [], h => by cases h
  | x :: h, y :: g, e => by
    have e : (match beqEnt x y with | true => beqH h g | false => false) = true := e
    split at e
    · rename_i q; rw [beqEnt_eq q, beqH_eq h g e]
    · cases e
/-- As 'eG'; where memory is as it was, that is told. -/
noncomputable def eQ (call : CallF) (g : RG) (T : Tr) (h : Heap) : Option (AV × Option Heap) :=
  match eG call g T h with
  | some p => (match p.2 with | none => some p | some h' => (match beqH h' h with | true => some (p.1, none) | false => some p))
  | none => none
theorem eQ_ok {P : Program} {call : CallF} {own : Bool} {n : Nat} {ops : Array Oper} {o : Oper} {T : Tr} {h : Heap} {v : AV} {oh : Option Heap} {fr : Fr} (hc : CallOK P call) (hf : Fits fr T) (e : eQ call (cG P own n ops o) T h = some (v, oh)) : YO P ops n h (oh.getD h) o v fr ∧ ∀ d : Nat, o.dst = some d → d < n := by
  unfold eQ at e
  split at e
  · rename_i p hp
    obtain ⟨v0, oh0⟩ := p
    simp only at e
    have q := eG_ok hc hf hp
    split at e
    · simp only [Option.some.injEq, Prod.mk.injEq] at e; obtain ⟨rfl, rfl⟩ := e; exact q
    · rename_i h'
      split at e
      · rename_i hb
        cases e
        have := beqH_eq _ _ hb
        subst this
        exact q
      · cases e; exact q
  · cases e
end Go.Aw
