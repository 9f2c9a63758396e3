/-
  Statements in an open order, and code, at known values, in a form that the kernel runs; and that the model does what it says.
  No conditions: definitions and lemmas over any program.
-/
import Derived.Test.YtpggiljgcckmoaaGreatDoorExec
namespace Go.Aw
open Go Go.RowKit
variable [Laid]

inductive OG where
  | mk (g : RG) (lo : Bool) (ck : List Nat)
def OG.g (o : OG) : RG := match o with | .mk g _ _ => g
def OG.lo (o : OG) : Bool := match o with | .mk _ l _ => l
def OG.ck (o : OG) : List Nat := match o with | .mk _ _ c => c
/-- It reads no memory. -/
def freeR (o : ROp) : Bool :=
  match o with
  | .load .. | .slA .. | .ofBytes .. | .inv .. | .call .. | .toBytes .. | .store .. | .new .. | .box .. | .mkSl .. | .make .. | .app .. | .appS .. => false
  | _ => true
def loAt (P : Program) (own : Nat → Bool) (ops : Array Oper) (i : Nat) : Bool := match ops[i]? with | some o => loudR (cOp P (own i) o.op) | none => false
/-- Where else it may come up. -/
def ckAt (lo : Nat → Bool) (ms : List Nat) (N i : Nat) : List Nat :=
  (List.range (cntL lo (fun _ => true) N + 1)).filter fun c => !Nat.beq c (cntL lo (fun _ => true) i) && (List.range N).all fun l => !lo l || ((!anB ms i l || Nat.ble (cntL lo (fun _ => true) l + 1) c) && (!anB ms l i || Nat.ble c (cntL lo (fun _ => true) l)))
def cOG (P : Program) (own : Nat → Bool) (n : Nat) (ops : Array Oper) (lo : Nat → Bool) (ms : List Nat) (i : Nat) (o : Oper) : OG :=
  .mk (cG P (own i) n ops o) (lo i) (match lo i, freeR (cOp P (own i) o.op) with | false, false => ckAt lo ms ops.size i | _, _ => [])
def cOGs (P : Program) (own : Nat → Bool) (n : Nat) (ops : Array Oper) (lo : Nat → Bool) (ms : List Nat) : Nat → List Oper → List OG
  | _, [] => []
  | i, o :: r => cOG P own n ops lo ms i o :: cOGs P own n ops lo ms (i + 1) r

noncomputable def canon (call : CallF) (l : List OG) : Tr → Heap → Option (List (Tr × AV) × List Heap × Tr) :=
  List.rec (motive := fun _ => Tr → Heap → Option (List (Tr × AV) × List Heap × Tr)) (fun T h => some ([], [h], T))
    (fun og _ ih T h => match eQ call og.g T h with
      | some p => (match og.lo, p.2 with
        | false, none => (match ih (putO og.g.d p.1 T) h with | some q => some ((T, p.1) :: q.1, q.2.1, q.2.2) | none => none)
        | true, none => (match ih (putO og.g.d p.1 T) h with | some q => some ((T, p.1) :: q.1, h :: q.2.1, q.2.2) | none => none)
        | true, some h' => (match ih (putO og.g.d p.1 T) h' with | some q => some ((T, p.1) :: q.1, h :: q.2.1, q.2.2) | none => none)
        | false, some _ => none)
      | none => none) l
noncomputable def ckAll (call : CallF) (hs : List Heap) (l : List OG) : List (Tr × AV) → Bool :=
  List.rec (motive := fun _ => List (Tr × AV) → Bool) (fun _ => true)
    (fun og _ ih es => match es with
      | [] => false
      | e :: es => (match allE (fun c => match getE hs c with
        | some hc => (match eQ call og.g e.1 hc with | some p => (match p.2 with | none => beqA p.1 e.2 | some _ => false) | none => false)
        | none => false) og.ck with | true => ih es | false => false)) l
noncomputable def lastE (l : List Heap) : Option Heap := List.rec (motive := fun _ => Option Heap → Option Heap) (fun a => a) (fun x _ ih _ => ih (some x)) l none
noncomputable def runOpen (call : CallF) (l : List OG) (T : Tr) (h : Heap) (k : Tr → Heap → Option Out) : Option Out :=
  match canon call l T h with
  | some q => (match ckAll call q.2.1 l q.1, lastE q.2.1 with | true, some h' => k q.2.2 h' | _, _ => none)
  | none => none

section
variable {P : Program} {call : CallF} {own : Nat → Bool} {n : Nat} {ops : Array Oper}
omit [Laid] in
theorem lastE_eq (l : List Heap) : lastE l = l.getLast? := by
  have key : ∀ (l : List Heap) (a : Option Heap), (List.rec (motive := fun _ => Option Heap → Option Heap) (fun a => a) (fun x _ ih _ => ih (some x)) l : Option Heap → Option Heap) a = (match l with | [] => a | _ => l.getLast?) := by
    intro l
    induction l with
    | nil => intro a; rfl
    | cons x l ih =>
      intro a
      have := ih (some x)
      cases l with
      | nil => rfl
      | cons y l => simpa [List.getLast?_cons_cons] using this
  have := key l none
  cases l with
  | nil => rfl
  | cons x l => exact this
theorem eG_free {o : Oper} {ow : Bool} {T : Tr} {h h2 : Heap} {v : AV} (hfree : freeR (cOp P ow o.op) = true) (e : eQ call (cG P ow n ops o) T h = some (v, none)) : eQ call (cG P ow n ops o) T h2 = some (v, none) := by
  have none2 : ∀ rop : ROp, freeR rop = true → ∀ T v h', ¬ eR call rop T h = some (v, some h') := by
    intro rop hr T v h' q
    cases rop <;> first | (cases hr; done) | skip
    all_goals (simp only [eR] at q)
    all_goals first | (have := (same_some q).2; cases this; done) | (cases q; done) | (split at q <;> cases q; done)
  have key : ∀ rop : ROp, freeR rop = true → eR call rop T h2 = eR call rop T h := by
    intro rop hr
    cases rop <;> first | rfl | (cases hr; done)
  have key2 : eG call (cG P ow n ops o) T h2 = eG call (cG P ow n ops o) T h := by
    unfold cG
    simp only [eG]
    rw [key _ hfree]
  have nh : ∀ v h', ¬ eG call (cG P ow n ops o) T h = some (v, some h') := by
    intro v h' q
    unfold cG at q
    simp only [eG] at q
    split at q
    · exact none2 _ hfree _ _ _ q
    · split at q
      · split at q
        · exact none2 _ hfree _ _ _ q
        · exact none2 _ hfree _ _ _ q
        · cases q
      · split at q <;> cases q
      · cases q
    · cases q
  unfold eQ at *
  rw [key2]
  cases eg : eG call (cG P ow n ops o) T h with
  | none => rw [eg] at e; cases e
  | some p =>
    obtain ⟨v0, oh0⟩ := p
    cases oh0 with
    | none => rw [eg] at e; exact e
    | some h' => exact absurd eg (nh v0 h')

/-- What the run says of each operation. -/
theorem canon_spec {V : Nat → AV} {Hs : Nat → Heap} {fr0 : Fr} {lo : Nat → Bool} {ms : List Nat} (hc : CallOK P call) : ∀ (l : List Oper) (i : Nat) (T : Tr) (h : Heap) (es : List (Tr × AV)) (hs : List Heap) (T' : Tr),
    canon call (cOGs P own n ops lo ms i l) T h = some (es, hs, T') → Fits (frL ops n V fr0 (fun _ => true) i) T → (∀ j, j < l.length → ops[i + j]? = l[j]?) → (∀ q e, es[q]? = some e → V (i + q) = e.2) → (∀ q x, hs[q]? = some x → Hs (cntL lo (fun _ => true) i + q) = x) →
    Fits (frL ops n V fr0 (fun _ => true) (i + l.length)) T' ∧ hs[0]? = some h ∧ hs.getLast? = some (Hs (cntL lo (fun _ => true) (i + l.length))) ∧ hs.length = cntL lo (fun _ => true) (i + l.length) - cntL lo (fun _ => true) i + 1 ∧
      ∀ q, q < l.length → ∃ o Tq oh, ops[i + q]? = some o ∧ (cOGs P own n ops lo ms i l)[q]? = some (cOG P own n ops lo ms (i + q) o) ∧ es[q]? = some (Tq, V (i + q)) ∧ Fits (frL ops n V fr0 (fun _ => true) (i + q)) Tq ∧
        eQ call (cG P (own (i + q)) n ops o) Tq (Hs (cntL lo (fun _ => true) (i + q))) = some (V (i + q), oh) ∧ (lo (i + q) = false → oh = none) ∧ (lo (i + q) = true → oh.getD (Hs (cntL lo (fun _ => true) (i + q))) = Hs (cntL lo (fun _ => true) (i + q) + 1)) := by
  intro l
  induction l with
  | nil =>
    intro i T h es hs T' e hf hl hV hH
    simp only [cOGs, canon, Option.some.injEq, Prod.mk.injEq] at e
    obtain ⟨rfl, rfl, rfl⟩ := e
    have h0 := hH 0 h rfl
    refine ⟨hf, rfl, by simp only [List.length_nil, Nat.add_zero] at h0 ⊢; rw [h0]; rfl, by simp, fun q hq => by simp at hq⟩
  | cons o l ih =>
    intro i T h es hs T' e hf hl hV hH
    have h0 : ops[i]? = some o := by simpa using hl 0 (by simp)
    have hl' : ∀ j, j < l.length → ops[i + 1 + j]? = l[j]? := fun j hj => by have := hl (j + 1) (by simp; omega); simpa [Nat.add_assoc, Nat.add_comm 1 j] using this
    simp only [cOGs, canon] at e
    cases eg : eQ call (OG.g (cOG P own n ops lo ms i o)) T h with
    | none => rw [eg] at e; simp at e
    | some p =>
      obtain ⟨v, oh⟩ := p
      rw [eg] at e
      have eg' : eQ call (cG P (own i) n ops o) T h = some (v, oh) := eg
      obtain ⟨hy, hd⟩ := eQ_ok hc hf eg'
      have hdst : dstOf ops i = o.dst := by unfold dstOf; rw [h0]; rfl
      have fin : ∀ (q : List (Tr × AV) × List Heap × Tr) (h2 : Heap), canon call (cOGs P own n ops lo ms (i + 1) l) (putO (OG.g (cOG P own n ops lo ms i o)).d v T) h2 = some q → es = (T, v) :: q.1 → T' = q.2.2 → (lo i = false → oh = none ∧ h2 = h ∧ hs = q.2.1) → (lo i = true → h2 = oh.getD h ∧ hs = h :: q.2.1) →
          Fits (frL ops n V fr0 (fun _ => true) (i + (o :: l).length)) T' ∧ hs[0]? = some h ∧ hs.getLast? = some (Hs (cntL lo (fun _ => true) (i + (o :: l).length))) ∧ hs.length = cntL lo (fun _ => true) (i + (o :: l).length) - cntL lo (fun _ => true) i + 1 ∧
      ∀ q, q < (o :: l).length → ∃ o' Tq oh, ops[i + q]? = some o' ∧ (cOGs P own n ops lo ms i (o :: l))[q]? = some (cOG P own n ops lo ms (i + q) o') ∧ es[q]? = some (Tq, V (i + q)) ∧ Fits (frL ops n V fr0 (fun _ => true) (i + q)) Tq ∧
        eQ call (cG P (own (i + q)) n ops o') Tq (Hs (cntL lo (fun _ => true) (i + q))) = some (V (i + q), oh) ∧ (lo (i + q) = false → oh = none) ∧ (lo (i + q) = true → oh.getD (Hs (cntL lo (fun _ => true) (i + q))) = Hs (cntL lo (fun _ => true) (i + q) + 1)) := by
        rintro ⟨es', hs', T''⟩ h2 e2 rfl rfl q0 q1
        have hVi : V i = v := hV 0 (T, v) rfl
        have hf' : Fits (frL ops n V fr0 (fun _ => true) (i + 1)) (putO (OG.g (cOG P own n ops lo ms i o)).d v T) := by
          rw [frL]; simp only; rw [hdst, hVi]; exact hf.set hd
        have hlen : i + (o :: l).length = i + 1 + l.length := by simp; omega
        have hmono : cntL lo (fun _ => true) (i + 1) ≤ cntL lo (fun _ => true) (i + 1 + l.length) := cntL_mono (by omega)
        have hV' : ∀ q e, es'[q]? = some e → V (i + 1 + q) = e.2 := fun q e he => by rw [show i + 1 + q = i + (q + 1) by omega]; exact hV (q + 1) e (by simpa using he)
        cases hlo : lo i with
        | false =>
          obtain ⟨z1, z2, z3⟩ := q0 hlo
          simp only at z3
          subst z1 z2 z3
          have hcnt : cntL lo (fun _ => true) (i + 1) = cntL lo (fun _ => true) i := by rw [cntL, hlo]; rfl
          obtain ⟨r1, r2, r3, r4, r5⟩ := ih (i + 1) _ _ es' hs _ e2 hf' hl' hV' (fun q x hx => by rw [hcnt]; exact hH q x hx)
          have hHi : Hs (cntL lo (fun _ => true) i) = h2 := hH 0 h2 r2
          refine ⟨by rw [hlen]; exact r1, r2, by rw [hlen]; exact r3, by rw [hlen, ← hcnt]; exact r4, fun q hq => ?_⟩
          cases q with
          | zero => exact ⟨o, T, none, h0, rfl, by rw [Nat.add_zero, hVi]; rfl, hf, by rw [Nat.add_zero, hHi, hVi]; exact eg', fun _ => rfl, fun z => by rw [Nat.add_zero, hlo] at z; cases z⟩
          | succ q =>
            obtain ⟨o', Tq, oh', s1, s2, s3⟩ := r5 q (by simp at hq; omega)
            rw [show i + (q + 1) = i + 1 + q by omega]
            exact ⟨o', Tq, oh', s1, by simpa [cOGs] using s2, by simpa using s3⟩
        | true =>
          obtain ⟨z2, z3⟩ := q1 hlo
          simp only at z3
          subst z2 z3
          have hcnt : cntL lo (fun _ => true) (i + 1) = cntL lo (fun _ => true) i + 1 := by rw [cntL, hlo]; rfl
          have hH' : ∀ q x, hs'[q]? = some x → Hs (cntL lo (fun _ => true) (i + 1) + q) = x := fun q x hx => by
            rw [hcnt, show cntL lo (fun _ => true) i + 1 + q = cntL lo (fun _ => true) i + (q + 1) by omega]
            exact hH (q + 1) x (by simpa using hx)
          obtain ⟨r1, r2, r3, r4, r5⟩ := ih (i + 1) _ _ es' hs' _ e2 hf' hl' hV' hH'
          have hHi : Hs (cntL lo (fun _ => true) i) = h := hH 0 h rfl
          have hHi1 : Hs (cntL lo (fun _ => true) i + 1) = oh.getD h := hH 1 _ (by simpa using r2)
          refine ⟨by rw [hlen]; exact r1, rfl, ?_, ?_, fun q hq => ?_⟩
          · rw [hlen, ← r3]
            cases hs' with
            | nil => simp at r2
            | cons x hs' => rw [List.getLast?_cons_cons]
          · rw [hlen, List.length_cons, r4]; omega
          · cases q with
            | zero =>
              refine ⟨o, T, oh, h0, rfl, by rw [Nat.add_zero, hVi]; rfl, hf, by rw [Nat.add_zero, hHi, hVi]; exact eg', fun z => (by rw [Nat.add_zero, hlo] at z; cases z), fun _ => ?_⟩
              rw [Nat.add_zero, hHi, hHi1]
            | succ q =>
              obtain ⟨o', Tq, oh', s1, s2, s3⟩ := r5 q (by simp at hq; omega)
              rw [show i + (q + 1) = i + 1 + q by omega]
              exact ⟨o', Tq, oh', s1, by simpa [cOGs] using s2, by simpa using s3⟩
      have hlo' : OG.lo (cOG P own n ops lo ms i o) = lo i := rfl
      rw [hlo'] at e
      simp only at e
      cases hlo : lo i with
      | false =>
        rw [hlo] at e
        cases oh with
        | none =>
          simp only at e
          split at e
          · rename_i q hq; cases e; exact fin q h hq rfl rfl (fun _ => ⟨rfl, rfl, rfl⟩) (fun z => by rw [hlo] at z; cases z)
          · cases e
        | some h' => simp at e
      | true =>
        rw [hlo] at e
        cases oh with
        | none =>
          simp only at e
          split at e
          · rename_i q hq; cases e; exact fin q h hq rfl rfl (fun z => by rw [hlo] at z; cases z) (fun _ => ⟨rfl, rfl⟩)
          · cases e
        | some h' =>
          simp only at e
          split at e
          · rename_i q hq; cases e; exact fin q h' hq rfl rfl (fun z => by rw [hlo] at z; cases z) (fun _ => ⟨rfl, rfl⟩)
          · cases e
omit [Laid] in
theorem ckAll_spec {hs : List Heap} : ∀ (l : List OG) (es : List (Tr × AV)), ckAll call hs l es = true → ∀ (q : Nat) (og : OG) (e : Tr × AV), l[q]? = some og → es[q]? = some e → ∀ c ∈ og.ck, ∃ hc, hs[c]? = some hc ∧ eQ call og.g e.1 hc = some (e.2, none)
  | [], es, _, q, og, e, hl, _, _, _ => by simp at hl
  | x :: l, [], h, q, og, e, _, he, _, _ => by simp at he
  | x :: l, y :: es, h, q, og, e, hl, he, c, hcm => by
    simp only [ckAll] at h
    split at h
    · rename_i h1
      cases q with
      | zero =>
        simp only [List.getElem?_cons_zero, Option.some.injEq] at hl he
        subst hl he
        rw [allE_eq] at h1
        have := List.all_eq_true.1 h1 c hcm
        split at this
        · rename_i hc hg
          rw [getE_eq] at hg
          split at this
          · rename_i p hp
            split at this
            · rename_i hn
              refine ⟨hc, hg, ?_⟩
              rw [hp, ← beqA_eq _ _ this, ← hn]
            · cases this
          · cases this
        · cases this
      | succ q => exact ckAll_spec l es h q og e (by simpa using hl) (by simpa using he) c hcm
    · cases h

theorem open_sound {m id : Nat} {k : Tr → Heap → Option Out} {r : Out} {Q : Exit → St → Prop} {st : St} {ms : List Nat} {T : Tr} (hc : CallOK P call) (hfo : P.follows .mixedOrders = true) (hed : edgesB ops (loAt P own ops) ms ops.size = true) (hn : st.n = n) (hf : Fits st.fr T)
    (e : runOpen call (cOGs P own n ops (loAt P own ops) ms 0 ops.toList) T st.h k = some r) (hQ : ∀ st' T', st'.n = n → Fits st'.fr T' → k T' st'.h = some r → Q .normal st') : AW P m (.region id ops true) Q st := by
  unfold runOpen at e
  cases ec : canon call (cOGs P own n ops (loAt P own ops) ms 0 ops.toList) T st.h with
  | none => rw [ec] at e; simp at e
  | some q =>
    obtain ⟨es, hs, T'⟩ := q
    rw [ec] at e
    simp only at e
    split at e
    · rename_i h' hck hlast
      rw [lastE_eq] at hlast
      obtain ⟨r1, r2, r3, r4, r5⟩ := canon_spec (V := fun i => (es.getD i (.lf, .any)).2) (Hs := fun c => hs.getD c []) (fr0 := st.fr) hc ops.toList 0 T st.h es hs T' ec hf (fun j hj => by simp)
        (fun q e he => by simp [List.getD_eq_getElem?_getD, he]) (fun q x hx => by simp [List.getD_eq_getElem?_getD, cntL, hx])
      subst hn
      have hsz : ops.toList.length = ops.size := by simp
      simp only [Nat.zero_add, hsz, cntL, Nat.sub_zero] at r1 r2 r3 r4 r5
      have hE := edges_of hed
      refine sound_open (V := fun i => (es.getD i (.lf, .any)).2) (Hs := fun c => hs.getD c []) (an := anB ms) (lo := loAt P own ops) hfo hE ⟨fun i o ho hlo => ?_, fun i o ho hlo c hcl hall => ?_⟩ (by simp [List.getD_eq_getElem?_getD, r2]) fun fr hfr => ?_
      · obtain ⟨o', Tq, oh, s1, s2, s3, s4, s5, s6, s7⟩ := r5 i (Array.getElem?_eq_some_iff.1 ho).1
        rw [ho] at s1; cases s1
        have := (eQ_ok hc s4 s5).1
        rw [s7 hlo] at this
        exact this
      · obtain ⟨o', Tq, oh, s1, s2, s3, s4, s5, s6, s7⟩ := r5 i (Array.getElem?_eq_some_iff.1 ho).1
        rw [ho] at s1; cases s1
        rw [s6 hlo] at s5
        have goal : eQ call (cG P (own i) st.n ops o) Tq (hs.getD c []) = some ((es.getD i (.lf, .any)).2, none) → YO P ops st.n (hs.getD c []) (hs.getD c []) o ((es.getD i (.lf, .any)).2) (frL ops st.n (fun i => (es.getD i (.lf, .any)).2) st.fr (fun _ => true) i) := fun z => (eQ_ok hc s4 z).1
        by_cases hcc : c = cntL (loAt P own ops) (fun _ => true) i
        · subst hcc; exact goal s5
        · cases hfr : freeR (cOp P (own i) o.op) with
          | true => exact goal (eG_free hfr s5)
          | false =>
            have hmem : c ∈ (cOG P own st.n ops (loAt P own ops) ms i o).ck := by
              unfold cOG OG.ck
              simp only [hlo, hfr]
              unfold ckAt
              rw [List.mem_filter, List.mem_range]
              refine ⟨by omega, ?_⟩
              simp only [Bool.and_eq_true, Bool.not_eq_true', List.all_eq_true, List.mem_range, Bool.or_eq_true]
              refine ⟨by cases z : Nat.beq c (cntL (loAt P own ops) (fun _ => true) i) with
                | false => rfl
                | true => exact absurd (Nat.eq_of_beq_eq_true z) hcc, fun l hl => ?_⟩
              cases hll : loAt P own ops l with
              | false => exact .inl rfl
              | true =>
                obtain ⟨a1, a2⟩ := hall l hl hll
                refine .inr ⟨?_, ?_⟩
                · cases z : anB ms i l with
                  | false => exact .inl rfl
                  | true => exact .inr (by rw [Nat.ble_eq]; exact a1 z)
                · cases z : anB ms l i with
                  | false => exact .inl rfl
                  | true => exact .inr (by rw [Nat.ble_eq]; exact a2 z)
            obtain ⟨hc', g1, g2⟩ := ckAll_spec _ _ hck i _ _ s2 s3 c hmem
            refine goal ?_
            rw [List.getD_eq_getElem?_getD, g1]
            exact g2
      · rw [r3] at hlast
        cases hlast
        exact hQ ⟨st.n, fr, _⟩ T' rfl (r1.eq hfr) e
    · cases e
end
end Go.Aw
