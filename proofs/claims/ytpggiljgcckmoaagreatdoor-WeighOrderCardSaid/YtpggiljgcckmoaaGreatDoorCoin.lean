/-
  A statement of few operations, in each order that it may take; a bool of which nothing is known; scopes that nothing jumps in.
  No conditions: definitions and lemmas over any program.
-/
import Derived.Test.YtpggiljgcckmoaaGreatDoorExec2
import Derived.Scope
namespace Go.Aw
open Go Go.RowKit
variable [Laid]

theorem AW.post {P : Program} {m : Nat} {c : Code} {Q Q' : Exit → St → Prop} {st : St} (h : AW P m c Q' st) (hq : ∀ e st', Q' e st' → ∃ st'', Weak m st' st'' ∧ Q e st'') : AW P m c Q st :=
  fun base ι S a w hm hr => wp_mono (h base ι S a w hm hr) fun _ _ _ ⟨ι', S', st', h1, h2, h3, h4⟩ => by
    obtain ⟨st'', hw, q⟩ := hq _ _ h4
    obtain ⟨ι'', S'', e, m2, r2⟩ := hw base ι' S' _ _ h2 h3
    exact ⟨ι'', S'', st'', h1.trans e, m2, r2, q⟩

/-- In each order. -/
def anyVC (P : Program) (ops : Array Oper) (Q : St → Prop) : Nat → Array Bool → St → Prop
  | 0, L, st => Region.ready .any ops L = [] ∧ Q st
  | k + 1, L, st => Region.ready .any ops L ≠ [] ∧ ∀ i ∈ Region.ready .any ops L, ∃ o, ops[i]? = some o ∧ o.guard = none ∧ stepOp P false (evalA st.fr) st.h o.op fun v h => anyVC P ops Q k (L.setIfInBounds i true) (setS st o.dst v h)
theorem anyVC_sound {P : Program} {ops : Array Oper} {m : Nat} {Q : Exit → St → Prop} : ∀ (k : Nat) (L : Array Bool) (base : Nat) (ι : List Ix) (S : Stab) (a : Act) (w : World) (st : St), m ≤ st.h.length → ROK base ι S a w st → anyVC P ops (Q .normal) k L st → wpAny P .any ops (Post m base ι S w Q) k L a w
  | 0, L, base, ι, S, a, w, st, hm, hr, q => ⟨q.1, ι, S, st, Evo.refl _ _ _ _ _, hm, hr, q.2⟩
  | k + 1, L, base, ι, S, a, w, st, hm, hr, q => by
    refine ⟨fun e => absurd e q.1, fun i hi => ?_⟩
    obtain ⟨o, ho, hg, hs⟩ := q.2 i hi
    unfold wpOp
    rw [ho]
    simp only
    have hw : Region.wanted o (yielded ops a.tmps) = true := by unfold Region.wanted; rw [hg]
    rw [if_pos hw]
    left
    refine wp_mono2 (fun a' w' k' => ?_) (fun _ _ _ k' => k') (sound_step hr hs _)
    obtain ⟨ι', S', v, h', hE, hR, hl, q'⟩ := k'
    have := anyVC_sound k (L.setIfInBounds i true) base ι' S' a' w' _ (by show m ≤ h'.length; omega) hR q'
    exact wpAny_mono (fun e a w z => Post.trans (hE.mono (by rw [hr.hp.len]; exact hm) (Nat.le_refl _)) z) _ _ _ _ this

/-- A new bool; true and false are stored, in some order; it is read. -/
def coinB (P : Program) (n : Nat) (ops : Array Oper) : Option (Tmp × Tmp) :=
  match ops.toList with
  | [o0, o1, o2, o3] =>
    (match o0.op, o0.dst, o0.guard with
    | .alloc tb, some d, none => (match o1.op, o1.dst, o1.guard with
      | .store t1 (.tmp x1) (.const (.bool true)), none, none => (match o2.op, o2.dst, o2.guard with
        | .store t2 (.tmp x2) (.const (.bool false)), none, none => (match o3.op, o3.dst, o3.guard with
          | .load t3 (.tmp x3), some t, none =>
            (match Nat.beq t1 tb && Nat.beq t2 tb && Nat.beq t3 tb && Nat.beq x1 d && Nat.beq x2 d && Nat.beq x3 d && Nat.ble (d + 1) n && Nat.ble (t + 1) n && !Nat.beq d t && P.follows .mixedOrders && tOk P tb && !tAgg P tb && Nat.beq (P.cellsOf tb) 1 &&
              (match zeroA P tb with | some (.v (.bool false)) => true | _ => false) &&
              (Region.ready .any ops #[false, false, false, false] == [0]) && (Region.ready .any ops #[true, false, false, false] == [1, 2]) && (Region.ready .any ops #[true, true, false, false] == [2]) && (Region.ready .any ops #[true, false, true, false] == [1]) && (Region.ready .any ops #[true, true, true, false] == [3]) && (Region.ready .any ops #[true, true, true, true] == []) with
            | true => some (d, t)
            | false => none)
          | _, _, _ => none)
        | _, _, _ => none)
      | _, _, _ => none)
    | _, _, _ => none)
  | _ => none
theorem coin_sound {P : Program} {m id : Nat} {ops : Array Oper} {d t : Tmp} {Q : Exit → St → Prop} {st : St} (hm : m ≤ st.h.length) (hc : coinB P st.n ops = some (d, t)) (hq : ∀ b : Bool, Q .normal ⟨st.n, putF (putF st.fr d .any) t (bool b), st.h ++ [.dead]⟩) : AW P m (.region id ops true) Q st := by
  unfold coinB at hc
  split at hc
  · rename_i o0 o1 o2 o3 hops
    split at hc
    · rename_i tb d' e0 f0 g0
      split at hc
      · rename_i t1 x1 e1 f1 g1
        split at hc
        · rename_i t2 x2 e2 f2 g2
          split at hc
          · rename_i t3 x3 t' e3 f3 g3
            split at hc
            · rename_i hok
              simp only [Option.some.injEq, Prod.mk.injEq] at hc
              obtain ⟨rfl, rfl⟩ := hc
              simp only [Bool.and_eq_true, Bool.not_eq_true', beq_iff_eq] at hok
              obtain ⟨⟨⟨⟨⟨⟨⟨⟨⟨⟨⟨⟨⟨⟨⟨⟨⟨⟨⟨k1, k2⟩, k3⟩, k4⟩, k5⟩, k6⟩, k7⟩, k8⟩, k9⟩, k10⟩, k11⟩, k12⟩, k13⟩, k14⟩, r0⟩, r1⟩, r2⟩, r3⟩, r4⟩, r5⟩ := hok
              obtain rfl := Nat.eq_of_beq_eq_true k1
              obtain rfl := Nat.eq_of_beq_eq_true k2
              obtain rfl := Nat.eq_of_beq_eq_true k3
              obtain rfl := Nat.eq_of_beq_eq_true k4
              obtain rfl := Nat.eq_of_beq_eq_true k5
              obtain rfl := Nat.eq_of_beq_eq_true k6
              have k7 := Nat.le_of_ble_eq_true k7
              have k8 := Nat.le_of_ble_eq_true k8
              have k9 : x3 ≠ t' := fun q => by rw [q] at k9; simp at k9
              have k13 := Nat.eq_of_beq_eq_true k13
              have hz : zeroA P t3 = some (.v (.bool false)) := by
                split at k14
                · assumption
                · cases k14
              have at' : ∀ i o, [o0, o1, o2, o3][i]? = some o → ops[i]? = some o := fun i o e => by rw [← hops, Array.getElem?_toList] at e; exact e
              have hsz : ops.size = 4 := by have := congrArg List.length hops; simpa using this
              intro base ι S a w _ hr
              obtain ⟨hE, hr'⟩ := hr.drew
              refine wp_region_any k10 (wpAny_mono (fun e a w z => Post.trans (hE.mono (by rw [hr.hp.len]; exact hm) (Nat.le_refl _)) z) _ _ _ _ ?_)
              rw [hsz]
              let Q2 : Exit → St → Prop := fun e st' => ∃ b : Bool, st' = ⟨st.n, putF (putF st.fr x3 (.op st.h.length 0)) t' (bool b), st.h ++ [.blk ⟨t3, [bool b], true⟩]⟩
              have key : anyVC P ops (Q2 .normal) 4 #[false, false, false, false] st := by
                refine ⟨by rw [r0]; simp, fun i hi => ?_⟩
                rw [r0] at hi
                simp only [List.mem_singleton] at hi
                subst hi
                refine ⟨o0, at' 0 o0 rfl, g0, ?_⟩
                rw [e0]
                simp only [stepOp, hz]
                unfold iNew
                refine ⟨by simp [vcells, scal, Value.oneCell'], ?_⟩
                have s0 : setS st o0.dst (.op st.h.length 0) (st.h ++ [.blk ⟨t3, vcells (.v (.bool false)), true⟩]) = ⟨st.n, putF st.fr x3 (.op st.h.length 0), st.h ++ [.blk ⟨t3, [bool false], true⟩]⟩ := by
                  unfold setS setFr; rw [f0]; have : x3 < st.n := k7; simp [this, vcells, scal]
                show anyVC P ops (Q2 .normal) 3 _ (setS st o0.dst _ _)
                rw [s0]
                -- a store
                have sto : ∀ (fr : Fr) (b c : Bool) (K : AV → Heap → Prop), getF fr x3 = .op st.h.length 0 → K (.v undef) (st.h ++ [.blk ⟨t3, [bool c], true⟩]) → stepOp P false (evalA fr) (st.h ++ [.blk ⟨t3, [bool b], true⟩]) (.store t3 (.tmp x3) (.const (.bool c))) K := by
                  intro fr b c K hfr hk
                  simp only [stepOp, k11, req]
                  simp only [evalA, hfr, constAV, constS, iStore]
                  rw [List.getElem?_append_right (Nat.le_refl _)]
                  simp [vcells, scal, Value.oneCell', k13, setAll]
                  exact hk
                show anyVC P ops (Q2 .normal) 3 #[true, false, false, false] _
                refine ⟨by rw [r1]; simp, fun i hi => ?_⟩
                rw [r1] at hi
                have g3' : getF (putF st.fr x3 (.op st.h.length 0)) x3 = .op st.h.length 0 := by rw [getF_put, if_pos rfl]
                have fin : ∀ b : Bool, anyVC P ops (Q2 .normal) 1 #[true, true, true, false] ⟨st.n, putF st.fr x3 (.op st.h.length 0), st.h ++ [.blk ⟨t3, [bool b], true⟩]⟩ := by
                  intro b
                  refine ⟨by rw [r4]; simp, fun i hi => ?_⟩
                  rw [r4] at hi
                  simp only [List.mem_singleton] at hi
                  subst hi
                  refine ⟨o3, at' 3 o3 rfl, g3, ?_⟩
                  rw [e3]
                  simp only [stepOp, k11, req, k12, k13]
                  simp only [evalA, g3', iLoad]
                  rw [List.getElem?_append_right (Nat.le_refl _)]
                  simp [ldP]
                  refine ⟨r5, b, ?_⟩
                  unfold setS setFr
                  rw [f3]
                  have : t' < st.n := k8
                  simp [this]
                simp only [List.mem_cons, List.not_mem_nil, or_false] at hi
                rcases hi with rfl | rfl
                · refine ⟨o1, at' 1 o1 rfl, g1, ?_⟩
                  rw [e1]
                  refine sto _ false true _ g3' ?_
                  have s1 : setS (⟨st.n, putF st.fr x3 (.op st.h.length 0), st.h ++ [.blk ⟨t3, [bool false], true⟩]⟩ : St) o1.dst (.v undef) (st.h ++ [.blk ⟨t3, [bool true], true⟩]) = ⟨st.n, putF st.fr x3 (.op st.h.length 0), st.h ++ [.blk ⟨t3, [bool true], true⟩]⟩ := by unfold setS setFr; rw [f1]
                  rw [s1]
                  show anyVC P ops (Q2 .normal) 2 #[true, true, false, false] _
                  refine ⟨by rw [r2]; simp, fun i hi => ?_⟩
                  rw [r2] at hi
                  simp only [List.mem_singleton] at hi
                  subst hi
                  refine ⟨o2, at' 2 o2 rfl, g2, ?_⟩
                  rw [e2]
                  refine sto _ true false _ g3' ?_
                  have s2 : setS (⟨st.n, putF st.fr x3 (.op st.h.length 0), st.h ++ [.blk ⟨t3, [bool true], true⟩]⟩ : St) o2.dst (.v undef) (st.h ++ [.blk ⟨t3, [bool false], true⟩]) = ⟨st.n, putF st.fr x3 (.op st.h.length 0), st.h ++ [.blk ⟨t3, [bool false], true⟩]⟩ := by unfold setS setFr; rw [f2]
                  rw [s2]
                  exact fin false
                · refine ⟨o2, at' 2 o2 rfl, g2, ?_⟩
                  rw [e2]
                  refine sto _ false false _ g3' ?_
                  have s1 : setS (⟨st.n, putF st.fr x3 (.op st.h.length 0), st.h ++ [.blk ⟨t3, [bool false], true⟩]⟩ : St) o2.dst (.v undef) (st.h ++ [.blk ⟨t3, [bool false], true⟩]) = ⟨st.n, putF st.fr x3 (.op st.h.length 0), st.h ++ [.blk ⟨t3, [bool false], true⟩]⟩ := by unfold setS setFr; rw [f2]
                  rw [s1]
                  show anyVC P ops (Q2 .normal) 2 #[true, false, true, false] _
                  refine ⟨by rw [r3]; simp, fun i hi => ?_⟩
                  rw [r3] at hi
                  simp only [List.mem_singleton] at hi
                  subst hi
                  refine ⟨o1, at' 1 o1 rfl, g1, ?_⟩
                  rw [e1]
                  refine sto _ false true _ g3' ?_
                  have s2 : setS (⟨st.n, putF st.fr x3 (.op st.h.length 0), st.h ++ [.blk ⟨t3, [bool false], true⟩]⟩ : St) o1.dst (.v undef) (st.h ++ [.blk ⟨t3, [bool true], true⟩]) = ⟨st.n, putF st.fr x3 (.op st.h.length 0), st.h ++ [.blk ⟨t3, [bool true], true⟩]⟩ := by unfold setS setFr; rw [f1]
                  rw [s2]
                  exact fin true
              have res := anyVC_sound (m := m) (Q := fun e st' => e = .normal ∧ Q2 e st') 4 #[false, false, false, false] base ι S a _ st hm hr' (by
                have mono : ∀ (k : Nat) (L : Array Bool) (s : St), anyVC P ops (Q2 .normal) k L s → anyVC P ops (fun st' => Exit.normal = .normal ∧ Q2 .normal st') k L s := by
                  intro k L s h
                  simpa using h
                exact mono _ _ _ key)
              refine wpAny_mono (fun e a w z => ?_) _ _ _ _ res
              obtain ⟨ι', S', st', z1, z2, z3, rfl, b, rfl⟩ := z
              have hk := z3.hp.kill st.h.length
              rw [List.set_append_right _ _ (Nat.le_refl _)] at hk
              simp only [Nat.sub_self, List.set_cons_zero] at hk
              refine ⟨ι', S', ⟨st.n, putF (putF st.fr x3 .any) t' (bool b), st.h ++ [.dead]⟩, z1, by simp; omega, ⟨z3.df, z3.sz, fun u => ?_, hk⟩, hq b⟩
              have r := z3.fr u
              show Rep ι' S' w (getF (putF (putF st.fr x3 .any) t' (bool b)) u) _
              have r : Rep ι' S' w (getF (putF (putF st.fr x3 (.op st.h.length 0)) t' (bool b)) u) _ := r
              rw [getF_put] at r ⊢
              split
              · rename_i q; rw [if_pos q] at r; exact r
              · rename_i q
                rw [if_neg q, getF_put] at r
                rw [getF_put]
                split
                · simp
                · rename_i q2; rw [if_neg q2] at r; exact r
            · cases hc
          · cases hc
        · cases hc
      · cases hc
    · cases hc
  · cases hc
end Go.Aw
