/-
  Code and calls at known values, in a form that the kernel runs; and that the model does what it says.
  No conditions: definitions and lemmas over any program.
-/
import Derived.Test.YtpggiljgcckmoaaGreatDoorCoin
namespace Go.Aw
open Go Go.RowKit
variable [Laid]

inductive RC where
  | skip
  | ret
  | exit (i : Nat)
  | seq (a b : RC)
  | block (i : Nat) (a : RC)
  | cond (x : RO) (a b : RC)
  | loop (a : RC)
  | reg (l : List RG)
  | opn (l : List OG)
  | coin (d t : Pa) (K : List Pa) (a : RC)
  | scp (a : RC)
  | bad
/-- The slots that a piece of code writes. -/
def writesC : Code → List Nat
  | .region _ ops _ => ops.toList.filterMap (·.dst)
  | .seq a b => writesC a ++ writesC b
  | .cond x a b => (match x with | .tmp t => [t] | _ => []) ++ writesC a ++ writesC b
  | .block _ a => writesC a
  | .loop a => writesC a
  | .scope a => writesC a
  | _ => []
def keepC (n d t : Nat) (b : Code) : List Nat := let l := d :: t :: writesC b; (List.range n).filter fun s => !(l.any fun u => Nat.beq u s)
def coinC (P : Program) (n : Nat) : Code → Option (Tmp × Tmp)
  | .region _ ops true => coinB P n ops
  | _ => none
def cC (P : Program) (own : Nat → Nat → Bool) (n : Nat) (c : Code) : RC :=
  match c with
  | .skip => .skip
  | .ret => .ret
  | .exit i => .exit i
  | .label _ => .skip
  | .seq a b =>
    (match coinC P n a with
    | some (d, t) => .coin (paN d) (paN t) ((keepC n d t b).map paN) (cC P own n b)
    | none => .seq (cC P own n a) (cC P own n b))
  | .scope a => .scp (cC P own n a)
  | .block i a => .block i (cC P own n a)
  | .cond x a b => .cond (cO x) (cC P own n a) (cC P own n b)
  | .loop a => .loop (cC P own n a)
  | .region id ops draw =>
    (match draw with
    | false => .reg (cGs P (own id) n ops 0 ops.toList)
    | true => (match P.follows .mixedOrders, edgesB ops (loAt P (own id) ops) (masks ops ops.size) ops.size with
      | true, true => .opn (cOGs P (own id) n ops (loAt P (own id) ops) (masks ops ops.size) 0 ops.toList)
      | _, _ => .bad))
  | _ => .bad

/-- Some slots, and memory, as they are behind a piece of code. -/
noncomputable def endK (K : List Pa) : Exit → Tr → Heap → Option Out := fun e T h => match e with | .normal => some (.tup (K.map fun p => getP p T), h) | _ => none
noncomputable def allT : List Pa → List AV → Tr
  | p :: K, v :: vs => putP p v (allT K vs)
  | _, _ => .lf
/-- The frame that tells the same. -/
def frK : List Nat → List AV → Fr
  | k :: K, v :: vs => putF (frK K vs) k v
  | _, _ => []
omit [Laid] in
theorem frK_fits : ∀ (K : List Nat) (vs : List AV), Fits (frK K vs) (allT (K.map paN) vs)
  | [], _ => fun t => by simp [frK, allT, getF, getP_lf]
  | _ :: _, [] => fun t => by simp [frK, allT, getF, getP_lf]
  | k :: K, v :: vs => by
    simp only [List.map_cons, frK, allT]
    exact (frK_fits K vs).put k v
omit [Laid] in
theorem frK_get (fr : Fr) : ∀ (K : List Nat) (u : Nat), getF (frK K (K.map fun k => getF fr k)) u = getF fr u ∨ getF (frK K (K.map fun k => getF fr k)) u = .any
  | [], u => .inr (by simp [frK, getF])
  | k :: K, u => by
    simp only [List.map_cons, frK]
    rw [getF_put]
    split
    · rename_i h; exact .inl (by rw [h])
    · exact frK_get fr K u
theorem weak_frK {m : Nat} (st : St) (K : List Nat) : Weak m st ⟨st.n, frK K (K.map fun k => getF st.fr k), st.h⟩ := by
  intro base ι S a w hm hr
  refine ⟨ι, S, Evo.refl _ _ _ _ _, hm, ⟨hr.df, hr.sz, fun u => ?_, hr.hp⟩⟩
  show Rep ι S w (getF (frK K (K.map fun k => getF st.fr k)) u) _
  rcases frK_get st.fr K u with h | h
  · rw [h]; exact hr.fr u
  · rw [h]; simp
noncomputable def loopR (F : Nat) (body : Tr → Heap → (Exit → Tr → Heap → Option Out) → Option Out) (q : Exit → Tr → Heap → Option Out) : Tr → Heap → Option Out :=
  Nat.rec (motive := fun _ => Tr → Heap → Option Out) (fun _ _ => none) (fun _ nx T h => body T h (fun e T h => match e with | .normal => nx T h | e => q e T h)) F
noncomputable def run (call : CallF) (F : Nat) (c : RC) : Tr → Heap → (Exit → Tr → Heap → Option Out) → Option Out :=
  RC.rec (motive := fun _ => Tr → Heap → (Exit → Tr → Heap → Option Out) → Option Out)
    (fun T h q => q .normal T h)
    (fun T h q => q .ret T h)
    (fun i T h q => q (.exit i) T h)
    (fun _ _ iha ihb T h q => iha T h (fun e T h => match e with | .normal => ihb T h q | e => q e T h))
    (fun i _ ih T h q => ih T h (fun e T h => match e with | .exit j => (match Nat.beq j i with | true => q .normal T h | false => q (.exit j) T h) | e => q e T h))
    (fun x _ _ iha ihb T h q => match evR T x with | .v (.bool true) => iha T h q | .v (.bool false) => ihb T h q | _ => none)
    (fun _ ih T h q => loopR F ih q T h)
    (fun l T h q => runReg call l T h (fun T h => q .normal T h))
    (fun l T h q => runOpen call l T h (fun T h => q .normal T h))
    (fun d t K _ ih T h q => match ih (putP t (bool true) (putP d .any T)) (h ++ [.dead]) (endK K), ih (putP t (bool false) (putP d .any T)) (h ++ [.dead]) (endK K) with
      | some r1, some r2 => (match beqA r1.1 r2.1, beqH r1.2 r2.2 with
        | true, true => (match r1.1 with | .tup vs => q .normal (allT K vs) r1.2 | _ => none)
        | _, _ => none)
      | _, _ => none)
    (fun _ ih T h q => ih T h (fun e T h => match e with | .goto _ => none | e => q e T h))
    (fun _ _ _ => none) c

section
variable {P : Program} {call : CallF} {own : Nat → Nat → Bool} {n F : Nat}
theorem run_sound (hc : CallOK P call) : ∀ (c : Code) (T : Tr) (st : St) (q : Exit → Tr → Heap → Option Out) (r : Out) (m : Nat), st.n = n → Fits st.fr T → run call F (cC P own n c) T st.h q = some r → AW P m c (PostR n q r) st
  | .skip, T, st, q, r, m, hn, hf, e => AW_skip ⟨hn, T, hf, e⟩
  | .ret, T, st, q, r, m, hn, hf, e => AW_ret ⟨hn, T, hf, e⟩
  | .exit i, T, st, q, r, m, hn, hf, e => AW_exit ⟨hn, T, hf, e⟩
  | .label l, T, st, q, r, m, hn, hf, e => AW_label ⟨hn, T, hf, e⟩
  | .goto l, T, st, q, r, m, hn, hf, e => by simp [cC, run] at e
  | .scope a, T, st, q, r, m, hn, hf, e => by
    intro base ι S ac w hm hr
    refine wp_scope_straight (wp_mono (run_sound hc a T st _ r m hn hf e base ι S ac w hm hr) fun ex a' w' k => ?_)
    obtain ⟨ι', S', st', h1, h2, h3, hn', T', hf', e'⟩ := k
    cases ex with
    | goto l => simp at e'
    | normal => exact ⟨ι', S', st', h1, h2, h3, hn', T', hf', e'⟩
    | exit i => exact ⟨ι', S', st', h1, h2, h3, hn', T', hf', e'⟩
    | ret => exact ⟨ι', S', st', h1, h2, h3, hn', T', hf', e'⟩
    | panic ch => exact ⟨ι', S', st', h1, h2, h3, hn', T', hf', e'⟩
    | outgrown => exact ⟨ι', S', st', h1, h2, h3, hn', T', hf', e'⟩
  | .seq a b, T, st, q, r, m, hn, hf, e => by
    simp only [cC] at e
    split at e
    · rename_i d t hco
      simp only [run] at e
      split at e
      · rename_i r1 r2 e1 e2
        split at e
        · rename_i b1 b2
          split at e
          · rename_i vs hvs
            have q1 := beqA_eq _ _ b1
            have q2 := beqH_eq _ _ b2
            have hcode : ∃ id ops, a = .region id ops true ∧ coinB P n ops = some (d, t) := by
              cases a with
              | region id ops draw =>
                cases draw with
                | true => exact ⟨id, ops, rfl, hco⟩
                | false => simp [coinC] at hco
              | _ => simp [coinC] at hco
            obtain ⟨id, ops, rfl, hcb⟩ := hcode
            have hrr : r2 = r1 := Prod.ext q1.symm q2.symm
            rw [hrr] at e2
            have fin : ∀ v : Bool, run call F (cC P own n b) (putP (paN t) (bool v) (putP (paN d) .any T)) (st.h ++ [.dead]) (endK ((keepC n d t b).map paN)) = some r1 → AW P m b (PostR n q r) ⟨st.n, putF (putF st.fr d .any) t (bool v), st.h ++ [.dead]⟩ := by
              intro v ev
              refine AW.post (run_sound hc b _ ⟨st.n, putF (putF st.fr d .any) t (bool v), st.h ++ [.dead]⟩ _ r1 m hn ((hf.put d .any).put t (bool v)) ev) ?_
              rintro ex st' ⟨hn', T', hf', e'⟩
              cases ex with
              | normal =>
                simp only [endK, Option.some.injEq] at e'
                rw [← e'] at hvs e
                simp only [AV.tup.injEq] at hvs
                refine ⟨_, weak_frK st' (keepC n d t b), hn', _, frK_fits _ _, ?_⟩
                have : (keepC n d t b).map (fun k => getF st'.fr k) = vs := by
                  rw [← hvs, List.map_map]
                  exact List.map_congr_left fun k _ => hf' k
                rw [this]
                exact e
              | _ => simp [endK] at e'
            intro base ι S ac w hm hr
            exact AW_seq (coin_sound (st := st) hm (by rw [hn]; exact hcb) fun v => by
              cases v with
              | true => exact fin true e1
              | false => exact fin false e2) base ι S ac w hm hr
          · cases e
        · cases e
      · cases e
    · refine AW_seq ((run_sound hc a T st _ r m hn hf e).mono fun ex st' k => ?_)
      obtain ⟨hn', T', hf', e'⟩ := k
      cases ex with
      | normal => exact run_sound hc b T' st' q r m hn' hf' e'
      | exit i => exact ⟨hn', T', hf', e'⟩
      | goto l => exact ⟨hn', T', hf', e'⟩
      | ret => exact ⟨hn', T', hf', e'⟩
      | panic ch => exact ⟨hn', T', hf', e'⟩
      | outgrown => exact ⟨hn', T', hf', e'⟩
  | .block i a, T, st, q, r, m, hn, hf, e => by
    refine AW_block ((run_sound hc a T st _ r m hn hf e).mono fun ex st' k => ?_)
    obtain ⟨hn', T', hf', e'⟩ := k
    cases ex with
    | exit j =>
      simp only [blockQ]
      simp only at e'
      split
      · rename_i h
        rw [show Nat.beq j i = true from Nat.beq_eq ▸ h] at e'
        exact ⟨hn', T', hf', e'⟩
      · rename_i h
        have : Nat.beq j i = false := by
          cases z : Nat.beq j i with
          | false => rfl
          | true => exact absurd (Nat.eq_of_beq_eq_true z) h
        rw [this] at e'
        exact ⟨hn', T', hf', e'⟩
    | normal => exact ⟨hn', T', hf', e'⟩
    | goto l => exact ⟨hn', T', hf', e'⟩
    | ret => exact ⟨hn', T', hf', e'⟩
    | panic ch => exact ⟨hn', T', hf', e'⟩
    | outgrown => exact ⟨hn', T', hf', e'⟩
  | .cond x a b, T, st, q, r, m, hn, hf, e => by
    simp only [cC, run] at e
    intro base ι S ac w hm hr
    have rv := hr.eval x
    rw [← evR_eq hf x] at rv
    split at e
    · rename_i hx
      rw [hx, Rep_v] at rv
      exact wp_cond_true rv (run_sound hc a T st q r m hn hf e base ι S ac w hm hr)
    · rename_i hx
      rw [hx, Rep_v] at rv
      exact wp_cond_false rv (run_sound hc b T st q r m hn hf e base ι S ac w hm hr)
    · cases e
  | .loop a, T, st, q, r, m, hn, hf, e => by
    refine AW_loop (α := St × Tr × Nat) (fun x => x.1.n = n ∧ Fits x.1.fr x.2.1 ∧ loopR x.2.2 (run call F (cC P own n a)) q x.2.1 x.1.h = some r) (fun x => x.1) (fun x => x.2.2) (st, T, F) ⟨hn, hf, e⟩ (Weak.refl _ _) ?_
    rintro ⟨s, T, k⟩ ⟨hn, hf, e⟩
    cases k with
    | zero => simp [loopR] at e
    | succ k =>
      refine (run_sound hc a T s _ r m hn hf e).mono fun ex st' hk => ?_
      obtain ⟨hn', T', hf', e'⟩ := hk
      cases ex with
      | normal => exact ⟨(st', T', k), ⟨hn', hf', e'⟩, Weak.refl _ _, Nat.lt_succ_self k⟩
      | exit i => exact ⟨hn', T', hf', e'⟩
      | goto l => exact ⟨hn', T', hf', e'⟩
      | ret => exact ⟨hn', T', hf', e'⟩
      | panic ch => exact ⟨hn', T', hf', e'⟩
      | outgrown => exact ⟨hn', T', hf', e'⟩
  | .region id ops draw, T, st, q, r, m, hn, hf, e => by
    have hQ : ∀ st' T', st'.n = n → Fits st'.fr T' → q .normal T' st'.h = some r → PostR n q r .normal st' := fun st' T' h1 h2 h3 => ⟨h1, T', h2, h3⟩
    cases draw with
    | false =>
      simp only [cC, run] at e
      intro base ι S a w hm hr
      subst hn
      have := reg_sound (m := m) (Q := PostR st.n q r) hc hQ ops.toList 0 base ι S a w st.fr st.h T (fun j hj => by simp) hm hr hf e
      rw [show List.range' 0 ops.toList.length = List.range ops.size by rw [List.range_eq_range']; simp] at this
      exact wp_region this
    | true =>
      simp only [cC] at e
      split at e
      · rename_i h1 h2
        simp only [run] at e
        exact open_sound hc h1 h2 hn hf e hQ
      · simp [run] at e
  | .rangeFunc _ _ _ _, T, st, q, r, m, hn, hf, e => by simp [cC, run] at e
  | .refuse _, T, st, q, r, m, hn, hf, e => by simp [cC, run] at e
end

/-! ### Results -/
inductive RR where
  | t (p : Pa)
  | c (p : Pa) (g : Bool) (sz : Nat)
  | bad
def cR (P : Program) (x : ResultVar) : RR :=
  match x with
  | .tmp t => .t (paN t)
  | .cell a t => (match tOk P t with | true => .c (paN a) (tAgg P t) (P.cellsOf t) | false => .bad)
noncomputable def resE (T : Tr) (h : Heap) : List RR → Option (List AV)
  | [] => some []
  | .t p :: r => (match resE T h r with | some l => some (getP p T :: l) | none => none)
  | .c p g sz :: r => (match eLoad g sz (getP p T) h, resE T h r with | some v, some l => some (v :: l) | _, _ => none)
  | .bad :: _ => none
theorem resE_ok {P : Program} {T : Tr} {st : St} (hf : Fits st.fr T) : ∀ (rs : List ResultVar) (l : List AV) (K : List AV → Prop), resE T st.h (rs.map (cR P)) = some l → K l → resA P st rs K
  | [], l, K, e, hk => by simp only [List.map_nil, resE, Option.some.injEq] at e; subst e; exact hk
  | .tmp t :: rs, l, K, e, hk => by
    simp only [List.map_cons, cR, resE] at e
    split at e
    · rename_i l' hl
      cases e
      refine resE_ok hf rs l' _ hl ?_
      have : evalA st.fr (.tmp t) = getP (paN t) T := hf t
      rw [this]; exact hk
    · cases e
  | .cell a t :: rs, l, K, e, hk => by
    simp only [List.map_cons, cR] at e
    cases ht : tOk P t with
    | false => rw [ht] at e; simp [resE] at e
    | true =>
      rw [ht] at e
      simp only [resE] at e
      split at e
      · rename_i v l' hv hl
        cases e
        simp only [resA, ht]
        have : evalA st.fr (.tmp a) = getP (paN a) T := hf a
        rw [this]
        exact eLoad_ok hv (resE_ok hf rs l' _ hl hk)
      · cases e

/-! ### Functions -/
structure RFn where
  code : RC
  rs : List RR
  n : Nat
def cF (P : Program) (own : Nat → Nat → Nat → Bool) (f : FuncId) : Option RFn :=
  match P.funcs[f]? with
  | some fn => (match fn.body, hasBody P f with
    | some c, true => some ⟨cC P (own f) fn.ntmps c, fn.results.toList.map (cR P), fn.ntmps⟩
    | _, _ => none)
  | none => none
noncomputable def bodyE (call : CallF) (F : Nat) (g : RFn) (args : List AV) (h : Heap) : Option Out :=
  match Nat.ble (lenF args) g.n with
  | true => run call F g.code (args0T args 0) h (fun e T h => match e with
    | .normal => (match resE T h g.rs with | some l => some (retA l, h) | none => none)
    | .ret => (match resE T h g.rs with | some l => some (retA l, h) | none => none)
    | _ => none)
  | false => none

theorem FnOK.acallW {P : Program} {f : FuncId} {c : Code} {n : Nat} {rs : List ResultVar} (F : FnOK P f c n rs) {args : List AV} {h : Heap} {K : AV → Heap → Prop} (hl : args.length ≤ n)
    (q : AW P h.length c (bodyQ P rs fun r h' => ∃ r' h'', Wk h.length [r] h' [r'] h'' ∧ K r' h'') ⟨n, args0 args 0, h⟩) : ACall P f args h K := by
  obtain ⟨fn, hf, hb, hrs, hn, _⟩ := F
  subst hrs
  intro base ι S w vs h1 h2
  have hlen := h1.length
  refine calls_of_wp hf hb (wp_mono (q base ι S _ w (Nat.le_refl _) ⟨rfl, by simp [hn]; omega, args_ok h1 _, h2⟩) ?_)
  rintro e a' w' ⟨ι', S', st', hE, hm, hr, hq⟩
  have fin : resA P st' fn.results.toList (fun l => ∃ r' h'', Wk h.length [retA l] st'.h [r'] h'' ∧ K r' h'') → a'.defers = [] ∧ ∃ v, (results fn a'.tmps).run P w' = .ok v w' ∧
      ∃ u ι'' S'' r h', Ending.returned v = .returned u ∧ Evo h.length base ι S w ι'' S'' w' ∧ Rep ι'' S'' w' r u ∧ HOK base ι'' S'' w' h' ∧ h.length ≤ h'.length ∧ K r h' := by
    intro hq
    obtain ⟨l, us, e1, rl, r', h'', ⟨wk1, wk2, wk3⟩, k⟩ := run_results (P := P) hr fn.results.toList _ hq
    have hv : Rep ι' S' w' (retA l) (if hh : us.length = 1 then us[0] else .tuple us.toArray) := by
      have hl := rl.length
      match l, us, hl, rl with
      | [], [], _, _ => simp only [retA]; rw [Rep]; exact ⟨[], rfl, by simp⟩
      | [x], [u], _, rl => simp at rl; simpa [retA] using rl
      | x :: y :: l, u :: v :: us, _, rl => simp only [retA]; rw [Rep]; exact ⟨u :: v :: us, by simp, rl⟩
    obtain ⟨ι2, S2, hE2, hs2, hp2⟩ := wk3 base ι' S' w' [_] ((RepL_cons _ _ _ _).2 ⟨hv, by simp⟩) hr.hp
    refine ⟨hr.df, if hh : us.length = 1 then us[0] else .tuple us.toArray, ?_, _, ι2, S2, r', h'', rfl, hE.trans hE2, ((RepL_cons _ _ _ _).1 hs2).1, hp2, wk1, k⟩
    rw [results_eq, ← Array.toArray_toList (xs := fn.results), List.mapM_toArray]
    simp only [Sem.run_bind, Sem.run_map, e1, Result.andThen_ok, Sem.run_pure]
    by_cases hh : us.length = 1 <;> simp [hh]
  cases e with
  | normal => exact fin hq
  | ret => exact fin hq
  | _ => exact hq.elim

theorem cF_ok {P : Program} {own : Nat → Nat → Nat → Bool} {f : FuncId} {g : RFn} (h : cF P own f = some g) : ∃ c rs, FnOK P f c g.n rs ∧ g.code = cC P (own f) g.n c ∧ g.rs = rs.map (cR P) := by
  unfold cF at h
  split at h
  · rename_i fn hf
    split at h
    · rename_i c hb hh
      cases h
      exact ⟨c, fn.results.toList, ⟨fn, hf, hb, rfl, rfl, hh⟩, rfl, rfl⟩
    · cases h
  · cases h

theorem bodyE_ok {P : Program} {own : Nat → Nat → Nat → Bool} {call : CallF} {F : Nat} {f : FuncId} {g : RFn} {args : List AV} {h h1 : Heap} {v : AV} {K : AV → Heap → Prop} (hc : CallOK P call) (hg : cF P own f = some g) (e : bodyE call F g args h = some (v, h1))
    (hk : h.length ≤ h1.length → ∃ r' h'', Wk h.length [v] h1 [r'] h'' ∧ K r' h'') : hasBody P f = true ∧ ACall P f args h K := by
  obtain ⟨c, rs, hF, ec, er⟩ := cF_ok hg
  unfold bodyE at e
  split at e
  · rename_i hl
    rw [Nat.ble_eq, lenF_eq] at hl
    refine ⟨hF.hb, hF.acallW hl ?_⟩
    rw [ec] at e
    refine AW.mono2 (run_sound hc c _ ⟨g.n, args0 args 0, h⟩ _ (v, h1) h.length rfl (fits_args args 0) e) fun ex st' hm k => ?_
    obtain ⟨hn', T', hf', e'⟩ := k
    have fin : (match resE T' st'.h g.rs with | some l => some (retA l, st'.h) | none => none) = some (v, h1) → resA P st' rs fun l => ∃ r' h'', Wk h.length [retA l] st'.h [r'] h'' ∧ K r' h'' := by
      intro e'
      split at e'
      · rename_i l hl'
        simp only [Option.some.injEq, Prod.mk.injEq] at e'
        obtain ⟨rfl, rfl⟩ := e'
        rw [er] at hl'
        exact resE_ok hf' rs l _ hl' (hk hm)
      · cases e'
    cases ex with
    | normal => exact fin e'
    | ret => exact fin e'
    | exit i => cases e'
    | goto l => cases e'
    | panic ch => cases e'
    | outgrown => cases e'
  · cases e

/-! ### What is told behind a call -/
/-- The greatest place that it names, and one more. -/
noncomputable def mxE (a : AV) : Nat :=
  AV.rec (motive_1 := fun _ => Nat) (motive_2 := fun _ => Nat) (motive_3 := fun _ => Nat)
    (fun _ => 0) (fun _ => 0) 0 (fun _ ih => ih) (fun _ ih => ih) 0 (fun _ _ ih => ih) (fun id _ _ ih => match Nat.ble ih id with | true => id + 1 | false => ih) (fun _ ih => ih) (fun id _ _ _ => id + 1) (fun id _ => id + 1)
    (fun _ _ _ ih1 ih2 => match Nat.ble ih1 ih2 with | true => ih2 | false => ih1) (fun _ _ ih => ih)
    0 (fun _ _ ih1 ih2 => match Nat.ble ih1 ih2 with | true => ih2 | false => ih1) 0 (fun _ _ ih1 ih2 => match Nat.ble ih1 ih2 with | true => ih2 | false => ih1) a
omit [Laid] in
theorem mx2 {a b n : Nat} (h : (match Nat.ble a b with | true => b | false => a) ≤ n) : a ≤ n ∧ b ≤ n := by
  split at h
  · rename_i e; rw [Nat.ble_eq] at e; omega
  · rename_i e
    have : ¬ a ≤ b := fun q => by rw [← Nat.ble_eq] at q; rw [q] at e; cases e
    omega
omit [Laid] in
theorem mx3 {a j n : Nat} (h : (match Nat.ble a j with | true => j + 1 | false => a) ≤ n) : a ≤ n ∧ j < n := by
  split at h
  · rename_i e; rw [Nat.ble_eq] at e; have h : j < n := h; exact ⟨by omega, h⟩
  · rename_i e
    have : ¬ a ≤ j := fun q => by rw [← Nat.ble_eq] at q; rw [q] at e; cases e
    omega
omit [Laid] in
theorem mxE_bd (n : Nat) (a : AV) : mxE a ≤ n → Bd n a := by
  refine AV.rec (motive_1 := fun a => mxE a ≤ n → Bd n a) (motive_2 := fun l => mxE (.agg l) ≤ n → BdL n l) (motive_3 := fun r => mxE (.sl 0 r) ≤ n → BdR n r) ?_ ?_ ?_ ?_ ?_ ?_ ?_ ?_ ?_ ?_ ?_ ?_ ?_ ?_ ?_ ?_ ?_ a
  · intro x _; simp [Bd]
  · intro x _; simp [Bd]
  · intro _; simp [Bd]
  · intro cs ih h; rw [Bd]; exact ih h
  · intro cs ih h; rw [Bd]; exact ih h
  · intro _; simp [Bd]
  · intro sz rows ih h; rw [Bd]; exact ih h
  · intro id sz rows ih h
    rw [Bd]
    have := mx3 (a := mxE (.sl 0 rows)) (j := id) h
    exact ⟨this.2, ih this.1⟩
  · intro cs ih h; rw [Bd]; exact ih h
  · intro id off len sz h; rw [Bd]; have h : id + 1 ≤ n := h; omega
  · intro id off h; rw [Bd]; have h : id + 1 ≤ n := h; omega
  · intro f xs ys ih1 ih2 h; rw [Bd]; have := mx2 (a := mxE (.agg xs)) (b := mxE (.agg ys)) h; exact ⟨ih1 this.1, ih2 this.2⟩
  · intro t x ih h; rw [Bd]; exact ih h
  · intro _; simp [BdL]
  · intro x l ih1 ih2 h; rw [BdL]; have := mx2 (a := mxE x) (b := mxE (.agg l)) h; exact ⟨ih1 this.1, ih2 this.2⟩
  · intro _; simp [BdR]
  · intro x l ih1 ih2 h; rw [BdR]; have := mx2 (a := mxE (.agg x)) (b := mxE (.sl 0 l)) h; exact ⟨ih1 this.1, ih2 this.2⟩
omit [Laid] in
theorem bd0_pure (a : AV) : Bd 0 a → Pure a := by
  refine AV.rec (motive_1 := fun a => Bd 0 a → Pure a) (motive_2 := fun l => BdL 0 l → PureL l) (motive_3 := fun r => BdR 0 r → PureR r) ?_ ?_ ?_ ?_ ?_ ?_ ?_ ?_ ?_ ?_ ?_ ?_ ?_ ?_ ?_ ?_ ?_ a
  all_goals intros
  all_goals simp_all [Bd, BdL, BdR, Pure, PureL, PureR]
omit [Laid] in
theorem bdL_iff (n : Nat) : ∀ l, BdL n l ↔ ∀ a ∈ l, Bd n a
  | [] => by simp [BdL]
  | a :: l => by rw [BdL, bdL_iff n l]; simp

def entB (M : Nat) (e : Ent) : Prop := match e with | .blk b => BdL M b.cells | _ => True
noncomputable def entE (e : Ent) : Nat := match e with | .blk b => mxE (.agg b.cells) | _ => 0
omit [Laid] in
theorem entE_bd {M : Nat} {e : Ent} (h : entE e ≤ M) : entB M e := by
  cases e with
  | blk b => have := mxE_bd M (.agg b.cells) h; rw [Bd] at this; exact this
  | tok => trivial
  | dead => trivial

/-- The first 'M' places are kept as they are; what lies behind them is told. -/
theorem HOK.cut {base : Nat} {ι : List Ix} {S : Stab} {w : World} {h : Heap} {M : Nat} (hh : HOK base ι S w h) (hM : M ≤ h.length) (hb : ∀ e ∈ h.take M, entB M e) :
    Evo M base ι S w (ι.take M) (stabT M ι S h) w ∧ HOK base (ι.take M) (stabT M ι S h) w (h.take M) := by
  obtain ⟨hE, hT⟩ := hh.told hM
  refine ⟨hE, ?_⟩
  have pre : ∀ {i : Nat}, i < M → (ι.take M)[i]? = ι[i]? := fun q => by rw [List.getElem?_take, if_pos q]
  have ent : ∀ {i : Nat} {x : Ent}, (h.take M)[i]? = some x → i < M ∧ h[i]? = some x ∧ (tlH M h)[i]? = some (tlE M h x) := by
    intro i x e
    rw [List.getElem?_take] at e
    split at e
    · rename_i q; exact ⟨q, e, by simp only [tlH, List.getElem?_map, List.getElem?_take, if_pos q, e, Option.map_some]⟩
    · cases e
  have alv : ∀ {i : Nat}, alive (h.take M)[i]? → alive (tlH M h)[i]? := by
    intro i ha
    cases e : (h.take M)[i]? with
    | none => rw [e] at ha; exact ha.elim
    | some x =>
      rw [(ent e).2.2]
      rw [e] at ha
      cases x <;> first | exact trivial | exact ha
  refine ⟨by simp [hh.len], fun id x e => ?_, fun id t sz n e => ?_, fun i j b ai aj hi hj => hT.inj i j b (alv ai) (alv aj) hi hj, hT.stb, hh.bas, hh.gl.evo hE⟩
  · obtain ⟨q, e1, e2⟩ := ent e
    obtain ⟨b, arr, fz, h1, h2, h3, h4, h5, h6, h7, h8, h9⟩ := hT.live id _ e2
    refine ⟨b, arr, fz, h1, h2, h3, h4, by simpa using h5, fun i c ec => ?_, h7, fun o ho => by simpa using h8 o ho, fun hw o ho => h9 hw o (by simpa using ho)⟩
    obtain ⟨b', arr', fz', k1, k2, k3, k4, k5, k6, _⟩ := hh.live id x e1
    rw [pre q, k1] at h1; cases h1
    rw [k3] at h3; cases h3
    obtain ⟨v, e3, r⟩ := k6 i c ec
    have hbd : entB M (.blk x) := hb _ (List.mem_of_getElem? e)
    exact ⟨v, e3, Rep.evoB hE c v ((bdL_iff M x.cells).1 hbd c (List.mem_of_getElem? ec)) r⟩
  · obtain ⟨q, e1, e2⟩ := ent e
    exact hT.tok id t sz n e2

/-- What a value is told as, where what lies from 'M' on is told. -/
noncomputable def toldE (M : Nat) (h : Heap) (a : AV) : AV := match Nat.ble (mxE a) M with | true => a | false => tl M h 6 a
theorem Wk.cut {L M : Nat} {h : Heap} {v : AV} (hL : L ≤ M) (hM : M ≤ h.length) (hb : ∀ e ∈ h.take M, entB M e) : Wk L [v] h [toldE M h v] (h.take M) :=
  ⟨by simp; omega, rfl, fun base ι S w vs r k => by
    obtain ⟨hE, hT⟩ := k.cut hM hb
    refine ⟨_, _, hE.mono hL (Nat.le_refl _), ?_, hT⟩
    obtain ⟨u, rfl⟩ : ∃ u, vs = [u] := by
      cases vs with
      | nil => simp at r
      | cons u us => simp at r; exact ⟨u, by rw [r.2]⟩
    simp only [RepL_cons, RepL_nil, and_true] at r ⊢
    unfold toldE
    split
    · rename_i e; rw [Nat.ble_eq] at e; exact Rep.evoB hE v u (mxE_bd M v e) r
    · exact Rep.tl k 6 v u r⟩

noncomputable def mxH (l : Heap) : Nat := List.rec (motive := fun _ => Nat) 0 (fun e _ ih => match Nat.ble (entE e) ih with | true => ih | false => entE e) l
omit [Laid] in
theorem mxH_ge (l : Heap) : ∀ e ∈ l, entE e ≤ mxH l := by
  induction l with
  | nil => intro e h; cases h
  | cons x l ih =>
    intro e he
    have hx : entE x ≤ mxH (x :: l) ∧ mxH l ≤ mxH (x :: l) := by
      show entE x ≤ (match Nat.ble (entE x) (mxH l) with | true => mxH l | false => entE x) ∧ mxH l ≤ (match Nat.ble (entE x) (mxH l) with | true => mxH l | false => entE x)
      split
      · rename_i e; rw [Nat.ble_eq] at e; exact ⟨e, Nat.le_refl _⟩
      · rename_i e
        have : ¬ entE x ≤ mxH l := fun q => by rw [← Nat.ble_eq] at q; rw [q] at e; cases e
        omega
    rcases List.mem_cons.1 he with rfl | he
    · exact hx.1
    · exact Nat.le_trans (ih e he) hx.2
def maxE (a b : Nat) : Nat := match Nat.ble a b with | true => b | false => a
/-- How much of the memory is kept: the first places, and what they name. -/
noncomputable def keepE (h : Heap) : Nat → Nat → Nat
  | 0, M => M
  | k + 1, M => match Nat.ble (mxH (takeE M h)) M with | true => M | false => keepE h k (mxH (takeE M h))
noncomputable def cutE (L : Nat) (keepRes : Bool) (v : AV) (h : Heap) : AV × Heap :=
  match Nat.beq (lenF h) L with
  | true => (v, h)
  | false => match keepE h 4 (match keepRes with | true => maxE L (mxE v) | false => L) with
    | M => match Nat.ble (mxH (takeE M h)) M, Nat.ble L M, hasN M h with
      | true, true, true => (toldE M h v, takeE M h)
      | _, _, _ => (v, h)
theorem cutE_ok {L : Nat} {kr : Bool} {v v' : AV} {h h' : Heap} (hL : L ≤ h.length) (e : cutE L kr v h = (v', h')) : Wk L [v] h [v'] h' := by
  unfold cutE at e
  split at e
  · cases e; exact Wk.refl _ _ _ hL
  · simp only at e
    split at e
    · rename_i e1 e2 e3
      cases e
      rw [takeE_eq] at e1 ⊢
      rw [Nat.ble_eq] at e1 e2
      exact Wk.cut e2 ((hasN_iff _ _).1 e3) fun x hx => entE_bd (Nat.le_trans (mxH_ge _ x hx) e1)
    · cases e; exact Wk.refl _ _ _ hL

/-! ### Calls -/
/-- What is asked of a call: which functions are known, whose results stay the call's own. -/
structure Cfg where
  own : Nat → Nat → Nat → Bool
  keep : Nat → Bool
  fuel : Nat
noncomputable def isPure (args : List AV) : Bool := allE (fun a => match mxE a with | 0 => true | _ => false) args
noncomputable def stepCall (P : Program) (C : Cfg) (call : CallF) (f : FuncId) (args : List AV) (h : Heap) : Option (AV × Option Heap) :=
  match cF P C.own f with
  | none => none
  | some g => (match isPure args, C.keep f with
    | true, false => (match bodyE call C.fuel g args [] with
      | some p => (match toldE 0 p.2 p.1 with
        | r => (match mxE r with | 0 => some (r, none) | _ => none))
      | none => none)
    | _, kr => (match bodyE call C.fuel g args h with
      | some p => (match cutE (lenF h) kr p.1 p.2 with | q => some (q.1, some q.2))
      | none => none))
noncomputable def callD (P : Program) (C : Cfg) (known : CallF) (d : Nat) : CallF :=
  Nat.rec (motive := fun _ => CallF) (fun _ _ _ => none) (fun _ ih f args h => match known f args h with | some r => some r | none => stepCall P C ih f args h) d

theorem stepCall_ok {P : Program} {C : Cfg} {call : CallF} (hc : CallOK P call) : CallOK P (stepCall P C call) := by
  intro f args h v oh e
  unfold stepCall at e
  split at e
  · cases e
  · rename_i g hg
    split at e
    · rename_i hp hk
      split at e
      · rename_i p hb
        obtain ⟨v0, h0⟩ := p
        simp only at e
        split at e
        · rename_i hm
          cases e
          have pure : PureL args := by
            unfold isPure at hp
            rw [allE_eq] at hp
            have : ∀ a ∈ args, Bd 0 a := fun a ha => by
              have := List.all_eq_true.1 hp a ha
              split at this
              · rename_i z; exact mxE_bd 0 a (by omega)
              · cases this
            have h2 : Pure (.agg args) := bd0_pure _ (by rw [Bd]; exact (bdL_iff 0 args).2 this)
            rw [Pure] at h2; exact h2
          have hcon : hasBody P f = true ∧ ACall P f args [] fun r' _ => r' = toldE 0 h0 v0 := bodyE_ok hc hg hb fun _ => ⟨_, _, Wk.cut (Nat.le_refl 0) (Nat.zero_le _) (by simp), rfl⟩
          have C' : Con P f args (toldE 0 h0 v0) := ⟨pure, bd0_pure _ (mxE_bd 0 _ (by omega)), hcon.2⟩
          exact .inl ⟨hcon.1, C'.call ⟨rfl, rfl⟩⟩
        · cases e
      · cases e
    · split at e
      · rename_i p hb
        obtain ⟨v0, h0⟩ := p
        simp only [Option.some.injEq, Prod.mk.injEq] at e
        obtain ⟨rfl, rfl⟩ := e
        rw [lenF_eq]
        exact .inl (bodyE_ok hc hg hb fun hl => ⟨_, _, cutE_ok hl rfl, rfl, rfl⟩)
      · cases e
theorem callD_ok {P : Program} {C : Cfg} {known : CallF} (hk : CallOK P known) : ∀ d, CallOK P (callD P C known d)
  | 0 => fun f args h v oh e => by simp [callD] at e
  | d + 1 => fun f args h v oh e => by
    simp only [callD] at e
    split at e
    · rename_i r hr; cases e; exact hk f args h v oh hr
    · exact stepCall_ok (callD_ok hk d) f args h v oh e
/-! ### Functions without a body -/
def idxF (c : Nat) : List UInt8 → Nat → Int
  | [], _ => -1
  | x :: r, i => match Nat.beq x.toNat c with | true => Int.ofNat i | false => idxF c r (i + 1)
omit [Laid] in
theorem idxF_eq (c : Int) (hc : 0 ≤ c ∧ c < 256) (l : List UInt8) : idxF c.toNat l 0 = firstIdx ⟨l.toArray⟩ c.toNat.toUInt8 := by
  have key : ∀ (pre l : List UInt8), (∀ x ∈ pre, ¬ x = c.toNat.toUInt8) → idxF c.toNat l pre.length = firstIdx ⟨(pre ++ l).toArray⟩ c.toNat.toUInt8 := by
    intro pre l
    induction l generalizing pre with
    | nil =>
      intro hp
      rw [idxF]
      unfold firstIdx
      have : ((List.range (ByteArray.size ⟨(pre ++ []).toArray⟩)).find? fun i => (⟨(pre ++ []).toArray⟩ : ByteArray)[i]! == c.toNat.toUInt8) = none := by
        rw [List.find?_eq_none]
        intro i hi
        have hi : i < pre.length := by simpa [ByteArray.size] using hi
        have h1 : (⟨(pre ++ []).toArray⟩ : ByteArray)[i]! = pre[i] := by
          rw [getElem!_pos _ i (by simpa [ByteArray.size] using hi)]
          show ((pre ++ []).toArray)[i]'(by simpa using hi) = pre[i]
          simp
        rw [h1]
        simpa using hp _ (List.getElem_mem hi)
      rw [this]
    | cons x l ih =>
      intro hp
      rw [idxF]
      have hx : Nat.beq x.toNat c.toNat = decide (x = c.toNat.toUInt8) := by
        rw [Bool.eq_iff_iff, Nat.beq_eq, decide_eq_true_eq]
        constructor
        · intro h; rw [← h]; simp
        · intro h; rw [h]; simp; omega
      rw [hx]
      by_cases e : x = c.toNat.toUInt8
      · rw [decide_eq_true e]
        simp only
        unfold firstIdx
        have : ((List.range (ByteArray.size ⟨(pre ++ x :: l).toArray⟩)).find? fun i => (⟨(pre ++ x :: l).toArray⟩ : ByteArray)[i]! == c.toNat.toUInt8) = some pre.length := by
          rw [List.find?_range_eq_some]
          refine ⟨?_, by simp [ByteArray.size], fun j hj => ?_⟩
          · rw [getElem!_pos _ pre.length (by simp [ByteArray.size])]
            show (((pre ++ x :: l).toArray)[pre.length]'(by simp) == _) = true
            simp [e]
          · rw [getElem!_pos _ j (by simp [ByteArray.size]; omega)]
            show (!(((pre ++ x :: l).toArray)[j]'(by simp; omega) == _)) = true
            have : ((pre ++ x :: l).toArray)[j]'(by simp; omega) = pre[j] := by simp [hj]
            rw [this]
            simpa using hp _ (List.getElem_mem hj)
        rw [this]
        rfl
      · rw [decide_eq_false e]
        simp only
        have := ih (pre ++ [x]) (by intro y hy; rcases List.mem_append.1 hy with h | h; exact hp y h; simp at h; rw [h]; exact e)
        simp only [List.length_append, List.length_cons, List.length_nil, List.append_assoc, List.cons_append, List.nil_append] at this
        exact this
  exact key [] l (by simp)
def byteI (n : Int) : Bool := match n with | .ofNat m => Nat.ble m 255 | _ => false
theorem ext_indexByte {P : Program} {f : FuncId} {fn : Func} (hf : P.funcs[f]? = some fn) (hname : (fn.name == "runtime.NumGoroutine") = false) (hb : fn.body.isNone = true) (hn : Extern.findNext fn = none) (he : Extern.find fn = some Extern.BytealgIndexByte.indexByte)
    {l : List UInt8} {c : Int} (hc : byteI c = true) (h : Heap) : ExtSem P f [.str l, .v (.int .u8 c)] h fun r hh => r = int (idxF c.toNat l 0) ∧ hh = h := by
  refine ⟨by unfold hasBody; rw [hf]; simp at hb; simp [hb], fun base ι S w vs h1 h2 => ?_⟩
  have hc' : 0 ≤ c ∧ c < 256 := by
    unfold byteI at hc
    split at hc
    · rw [Nat.ble_eq] at hc; simp only [Int.ofNat_eq_natCast]; omega
    · cases hc
  match vs, h1 with
  | [v1, v2], h1 =>
    simp only [RepL_cons, Rep_str, Rep_v, RepL_nil, and_true] at h1
    obtain ⟨⟨rfl, _⟩, rfl⟩ := h1
    refine ⟨.int .i64 (firstIdx ⟨l.toArray⟩ c.toNat.toUInt8), _, w, ι, S, h, ?_, Evo.refl _ _ _ _ _, ?_, h2, Nat.le_refl _, rfl, rfl⟩
    · rw [run_callFunc_extern hf hname hb hn he, run_indexByte_string]; rfl
    · rw [idxF_eq c hc']; simp
  | [], h1 => simp at h1
  | [_], h1 => simp at h1
  | _ :: _ :: _ :: _, h1 => simp at h1
/-- **A run is a contract.** -/
theorem callD_con {P : Program} {C : Cfg} {known : CallF} (hk : CallOK P known) {d : Nat} {f : FuncId} {args : List AV} {r : AV} (pa : isPure args = true) (pr : isPure [r] = true) (hb : hasBody P f = true) (e : callD P C known d f args [] = some (r, none)) : Con P f args r := by
  have p : ∀ l : List AV, isPure l = true → PureL l := fun l hp => by
    unfold isPure at hp
    rw [allE_eq] at hp
    have : ∀ a ∈ l, Bd 0 a := fun a ha => by
      have := List.all_eq_true.1 hp a ha
      split at this
      · rename_i z; exact mxE_bd 0 a (by omega)
      · cases this
    have h2 : Pure (.agg l) := bd0_pure _ (by rw [Bd]; exact (bdL_iff 0 l).2 this)
    rw [Pure] at h2; exact h2
  have pr' := p [r] pr
  rw [PureL] at pr'
  rcases (callD_ok hk d) f args [] r none e with ⟨_, hA⟩ | hA
  · exact ⟨p args pa, pr'.1, hA.mono fun r' hh q => q.1⟩
  · rw [hA.1] at hb; cases hb
end Go.Aw
