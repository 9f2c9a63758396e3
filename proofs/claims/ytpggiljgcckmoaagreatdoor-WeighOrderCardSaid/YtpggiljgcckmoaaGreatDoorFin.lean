/-
  From a contract on abstract values to a given statement: arguments opened by their type, what is left behind a call that only writes new memory.
  No conditions: definitions and lemmas over any program.
-/
import Derived.Test.YtpggiljgcckmoaaGreatDoorUse
import Derived.ProofKit
import Derived.OpenShut
import Derived.OpenVars
namespace Go.Aw
open Go Go.RowKit Go.ChangeShapes Go.WideShapes

section
variable {H : Type} {enc : TypeId × Value → H} {P : Program}

theorem trodAll_below (hl : laidOutB P = true) {W W' : World} (hb : Below W.heap.size W W') : ∀ {ts : List TypeId} {vs : List Value} {ds : List (DataW H)} {ps : List MemPlace},
    ts.all (fun t => P.readableRec t && decide (t < P.types.size)) = true → DataW.TrodAll enc P W 0 (fun _ => true) true ts vs ds ps → (∀ x ∈ ps, x.block < W.heap.size) →
    DataW.TrodAll enc P W' 0 (fun b => decide (b < W.heap.size)) true ts vs ds ps
  | [], _, _, _, _, h, _ => by obtain ⟨rfl, rfl, rfl⟩ := trodAll_nil h; exact rfl
  | t :: ts, _, _, _, hr, h, hlt => by
    obtain ⟨v, vs, d, ds, p, q, rfl, rfl, rfl, h1, h2⟩ := trodAll_cons h
    simp only [List.all_cons, Bool.and_eq_true, decide_eq_true_eq] at hr
    exact ⟨p, q, Below.trod hl hr.1.1 hr.1.2 h1 hb (fun x hx => hlt x (by simp [hx])), trodAll_below hl hb hr.2 h2 (fun x hx => hlt x (by simp [hx])), rfl⟩

/-- True, and what came in reads as it did. -/
theorem post_true {f : Func} {s : ChangeSpec} {apart fresh handsOn : Bool} {W W' : World} {args : Array Value} {ds gs : List (DataW H)} {before : List MemPlace} {tb : TypeId}
    (hl : laidOutB P = true) (hrd : f.params.toList.all (fun t => P.readableRec t && decide (t < P.types.size)) = true) (hvr : varsRowed P s.vars = true) (hrt : f.resultTypes = #[tb]) (hb : P.underlying tb = some .bool)
    (hW : DataW.Whole enc P f.params.toList s.vars apart W args.toList ds gs before) (hfn : s.fn H (ds ++ gs) = { results := [.lit (.bool true)], args := ds, vars := gs }) (hB : Below W.heap.size W W') :
    s.post enc P f apart fresh handsOn false W args (.bool true) W' := by
  have hlt := hW.lt
  have hW0 := hW
  obtain ⟨p, q, hA, hV, rfl, hfz, hnd⟩ := hW
  have hA' := trodAll_below (enc := enc) hl hB hrd hA (fun x hx => hlt x (by simp [hx]))
  have hV' := Below.trodVars (enc := enc) hl hB hvr hV
  refine ⟨ds, gs, p ++ q, [], p, q, hW0, ?_, by rw [hfn]; exact hA', by rw [hfn]; exact hV', hB.frame _, fun e => by cases e⟩
  rw [hfn, hrt]
  exact trodAll_mk1 (shut_bool hb true)
end

/-! Arguments opened -/
/-- Every cell that is there now. -/
def old (W : World) : Stab := fun b _ => b < W.heap.size

/-- The cells of a value of type 't' stand for 'enc x', for some fitting 'x'. -/
def Opens (P : Program) (t : TypeId) {X : Type} (ea : X → List AV) (ok : X → Prop) : Prop :=
  ∀ (H : Type) (enc : TypeId × Value → H) (W : World) (fuel : Nat) (cs : List Value) (d : DataW H) (ps : List MemPlace),
    DataW.trod enc P W 0 (fun _ => true) true fuel t cs = some (d, ps) → ∃ x, ok x ∧ RepL [] (old W) W (ea x) cs ∧ cs.length = P.cellsOf t

theorem opens_int {P : Program} {t : TypeId} {k : IntKind} (ht : P.underlying t = some (.int k)) (hc : P.cellsOf t = 1) : Opens P t (fun n : Int => [.v (.int k n)]) (fun n => (Lit.int k n).wf = true) := by
  intro H enc W fuel cs d ps h
  obtain ⟨n, rfl, _, hn⟩ := DataW.trod_int ht h
  exact ⟨n, hn, by simp, by simp [hc]⟩
theorem opens_bool {P : Program} {t : TypeId} (ht : P.underlying t = some .bool) (hc : P.cellsOf t = 1) : Opens P t (fun b : Bool => [.v (.bool b)]) (fun _ => True) := by
  intro H enc W fuel cs d ps h
  obtain ⟨n, rfl, _⟩ := DataW.trod_bool ht h
  exact ⟨n, trivial, by simp, by simp [hc]⟩
theorem opens_string {P : Program} {t : TypeId} (ht : P.underlying t = some .string) (hc : P.cellsOf t = 1) : Opens P t (fun s : List UInt8 => [.str s]) (fun s => s.length ≤ maxLen) := by
  intro H enc W fuel cs d ps h
  obtain ⟨s, rfl, _, hs⟩ := DataW.trod_string ht h
  exact ⟨s.data.toList, by simpa using hs, by simpa using hs, by simp [hc]⟩

theorem opens_array {P : Program} {t e : TypeId} {n : Nat} {X : Type} {ea : X → List AV} {ok : X → Prop} (ht : P.underlying t = some (.array n e)) (hc : P.cellsOf t = n * P.cellsOf e) (hx : Opens P e ea ok) :
    Opens P t (fun l : List X => l.flatMap ea) (fun l => l.length = n ∧ ∀ x ∈ l, ok x) := by
  intro H enc W fuel cs d ps h
  obtain ⟨xs, m, rfl, hx', hcs, hxs, hel⟩ := DataW.trod_array ht h
  have key : ∀ (k : Nat) (ds : List Value), ds.length = k * P.cellsOf e → (∀ i, i < k → ∃ y, DataW.trod enc P W 0 (fun _ => true) true m e ((ds.drop (i * P.cellsOf e)).take (P.cellsOf e)) = some y) →
      ∃ l : List X, (l.length = k ∧ ∀ x ∈ l, ok x) ∧ RepL [] (old W) W (l.flatMap ea) ds := by
    intro k
    induction k with
    | zero => intro ds hd _; exact ⟨[], by simp, by simp at hd; simp [hd]⟩
    | succ k ih =>
      intro ds hd hk
      obtain ⟨⟨d0, p0⟩, h0⟩ := hk 0 (by omega)
      obtain ⟨x, h1, h2, h3⟩ := hx H enc W m _ d0 p0 h0
      rw [Nat.add_mul, Nat.one_mul] at hd
      obtain ⟨l, ⟨l1, l2⟩, l3⟩ := ih (ds.drop (P.cellsOf e)) (by simp; omega) (fun i hi => by
        obtain ⟨y, hy⟩ := hk (i + 1) (by omega)
        refine ⟨y, ?_⟩
        rw [List.drop_drop, show P.cellsOf e + i * P.cellsOf e = (i + 1) * P.cellsOf e by rw [Nat.add_mul, Nat.one_mul, Nat.add_comm]]
        exact hy)
      refine ⟨x :: l, ⟨by simp [l1], by simpa using ⟨h1, l2⟩⟩, ?_⟩
      rw [List.flatMap_cons]
      have := h2.append l3
      simpa using this
  obtain ⟨l, hl, hr⟩ := key n cs (by omega) (fun i hi => by
    rw [hel i hi]
    exact ⟨xs[i], List.getElem?_eq_getElem (by omega)⟩)
  exact ⟨l, hl, hr, hcs⟩

theorem add_plain (b off i : Nat) : (⟨b, off, none⟩ : Addr).add i = ⟨b, off + i, none⟩ := addr_add b off i
theorem opens_slice {P : Program} {t e : TypeId} {X : Type} {ea : X → List AV} {ok : X → Prop} (ht : P.underlying t = some (.slice e)) (hc : P.cellsOf t = 1) (hpos : 0 < P.cellsOf e) (hx : Opens P e ea ok) :
    Opens P t (fun l : List X => [.sl (P.cellsOf e) (l.map ea)]) (fun l => l.length ≤ maxLen ∧ ∀ x ∈ l, ok x) := by
  intro H enc W fuel cs d ps h
  obtain ⟨rfl, _⟩ | ⟨a, len, cap, elems, rest, n, rfl, rfl, hxx, _, hlc, hcm, hlen, hel, _, _⟩ := DataW.trod_slice ht h
  · refine ⟨[], by simp, ?_, by simp [hc]⟩
    simp only [List.map_nil, RepL_cons, RepL_nil, and_true]
    rw [Rep]
    exact ⟨none, 0, rfl, Nat.le_refl _, Nat.zero_le _, .inl rfl⟩
  · have key : ∀ i, i < len → ∃ x, ok x ∧ ∃ us : List Value, RepL [] (old W) W (ea x) us ∧ us.length = P.cellsOf e ∧ ∀ j, j < us.length → W.cell? ((a.add (i * P.cellsOf e)).add j) = us[j]? := by
      intro i hi
      have h0 := hel i hi
      rw [List.getElem?_eq_getElem (by omega)] at h0
      obtain ⟨us, hus, hu⟩ := Option.bind_eq_some_iff.1 h0
      obtain ⟨_, hul, huc⟩ := World.cells?_some hus
      obtain ⟨x, h1, h2, h3⟩ := hx H enc W n us elems[i].1 elems[i].2 hu
      exact ⟨x, h1, us, h2, h3, fun j hj => huc j (by omega)⟩
    have hlist : ∀ k, k ≤ len → ∃ l : List X, l.length = k ∧ ∀ i x, l[i]? = some x → ok x ∧ ∃ us : List Value, RepL [] (old W) W (ea x) us ∧ us.length = P.cellsOf e ∧ ∀ j, j < us.length → W.cell? ((a.add (i * P.cellsOf e)).add j) = us[j]? := by
      intro k
      induction k with
      | zero => intro _; exact ⟨[], rfl, by simp⟩
      | succ k ih =>
        intro hk
        obtain ⟨l, hl, hi⟩ := ih (by omega)
        obtain ⟨x, hx1, hx2⟩ := key k (by omega)
        refine ⟨l ++ [x], by simp [hl], fun i y hy => ?_⟩
        rcases Nat.lt_trichotomy i k with q | q | q
        · rw [List.getElem?_append_left (by omega)] at hy
          exact hi i y hy
        · subst q
          rw [List.getElem?_append_right (by omega)] at hy
          simp [hl] at hy
          subst hy
          exact ⟨hx1, hx2⟩
        · rw [List.getElem?_eq_none (by simp; omega)] at hy
          cases hy
    obtain ⟨l, hl, hi⟩ := hlist len (by omega)
    refine ⟨l, ⟨by omega, fun x hx => ?_⟩, ?_, by simp [hc]⟩
    · obtain ⟨i, hi', he⟩ := List.getElem_of_mem hx
      exact (hi i x (by rw [List.getElem?_eq_getElem hi', he])).1
    simp only [RepL_cons, RepL_nil, and_true]
    rw [Rep]
    refine ⟨some a, cap, by simp [hl], by simpa [hl] using hlc, hcm, ?_⟩
    cases l with
    | nil => exact .inl rfl
    | cons x0 l0 =>
      right
      obtain ⟨_, us0, _, hu0, hu1⟩ := hi 0 x0 rfl
      obtain ⟨b, off, spot⟩ := a
      have hsp : spot = none := by
        have h1 := hu1 0 (by omega)
        rw [List.getElem?_eq_getElem (by omega)] at h1
        simpa [Addr.add] using World.cell?_spot h1
      subst hsp
      refine ⟨b, off, rfl, RepR.mk fun i r hr => ?_⟩
      rw [List.getElem?_map] at hr
      cases hxi : (x0 :: l0)[i]? with
      | none => rw [hxi] at hr; cases hr
      | some x =>
        rw [hxi] at hr
        cases hr
        obtain ⟨_, us, k1, k2, k3⟩ := hi i x hxi
        refine ⟨by rw [k1.length]; exact k2, RepC.mk fun j c ec => ?_⟩
        obtain ⟨u, e1, e2⟩ := k1.get j c ec
        have h1 := k3 j (List.getElem?_eq_some_iff.1 e1).1
        rw [e1, add_plain, add_plain] at h1
        refine ⟨u, h1, ?_, e2⟩
        show b < W.heap.size
        unfold World.cell? at h1
        split at h1
        · rename_i c1 c2 c3 hh
          exact (Array.getElem?_eq_some_iff.1 hh).1
        · cases h1

/-- An argument of one cell. -/
theorem Opens.one {P : Program} {t : TypeId} {X : Type} {ea : X → AV} {ok : X → Prop} (ho : Opens P t (fun x => [ea x]) ok) {H : Type} {enc : TypeId × Value → H} {W : World} {v : Value} {d : DataW H} {ps : List MemPlace}
    (hna : ∀ cs, v ≠ .agg cs) (hnt : ∀ cs, v ≠ .tuple cs) (h : DataW.Trod enc P W 0 (fun _ => true) true t v d ps) : ∃ x, ok x ∧ Rep [] (old W) W (ea x) v := by
  obtain ⟨fuel, h⟩ := h
  obtain ⟨x, h1, h2, _⟩ := ho H enc W fuel _ d ps h
  refine ⟨x, h1, ?_⟩
  have e : v.cells.toList = [v] := by
    cases v <;> first | rfl | (exact absurd rfl (hna _)) | (exact absurd rfl (hnt _))
  rw [e] at h2
  simpa using h2
/-- An argument that is a struct or an array. -/
theorem Opens.agg {P : Program} {t : TypeId} {X : Type} {ea : X → List AV} {ok : X → Prop} (ho : Opens P t ea ok) {H : Type} {enc : TypeId × Value → H} {W : World} {v : Value} {d : DataW H} {ps : List MemPlace}
    (ha : ∃ cs, v = .agg cs) (h : DataW.Trod enc P W 0 (fun _ => true) true t v d ps) : ∃ x, ok x ∧ Rep [] (old W) W (.agg (ea x)) v := by
  obtain ⟨fuel, h⟩ := h
  obtain ⟨x, h1, h2, _⟩ := ho H enc W fuel _ d ps h
  obtain ⟨cs, rfl⟩ := ha
  refine ⟨x, h1, ?_⟩
  rw [Rep]
  exact ⟨cs.toList, by simp, h2⟩
theorem okWide_array {P : Program} {w : World} {r : Reach} {base : Nat} {t e : TypeId} {n : Nat} {v : Value} (ht : P.underlying t = some (.array n e)) (h : Value.okWide P w r base t v) : ∃ cs, v = .agg cs := by
  simp only [Value.okWide, ht] at h
  obtain ⟨cs, h1, _⟩ := h
  exact ⟨cs, h1⟩

/-- A contract that answers true, as a call. -/
theorem Con.calls [Laid] {P : Program} {f : FuncId} {as : List AV} (c : Con P f as (bool true)) {W : World} {vs : List Value} (hg : GOK (old W) W) (h : RepL [] (old W) W as vs) :
    Calls P f vs.toArray W fun e W' => e = .returned (.bool true) ∧ Below W.heap.size W W' := by
  obtain ⟨_, _, c⟩ := c
  refine (c W.heap.size [] (old W) W vs h (HOK.nil (old W) W (fun b o q => q) hg)).mono ?_
  rintro e W' ⟨v, ι', S', r, h', e1, e2, e3, e4, _, rfl⟩
  simp at e3
  exact ⟨by rw [e1, e3], e2.bel⟩
/-- A table of whole numbers, as its variable holds it. -/
theorem RepC.ints {W : World} {g : Nat} {k : IntKind} {zs : List Int} (hc : ∀ i, i < zs.length → W.cell? ⟨g, i, none⟩ = some (.int k (zs.getD i 0))) : RepC [] (old W) W (zs.map fun z => .v (.int k z)) g 0 := by
  refine RepC.mk fun i c e => ?_
  rw [List.getElem?_map] at e
  cases hz : zs[i]? with
  | none => rw [hz] at e; cases e
  | some z =>
    rw [hz] at e
    cases e
    have hi := (List.getElem?_eq_some_iff.1 hz).1
    have h1 := hc i hi
    rw [List.getD_eq_getElem?_getD, hz] at h1
    refine ⟨_, by rw [Nat.zero_add]; exact h1, ?_, by simp⟩
    show g < W.heap.size
    unfold World.cell? at h1
    split at h1
    · rename_i c1 c2 c3 hh
      exact (Array.getElem?_eq_some_iff.1 hh).1
    · cases h1
end Go.Aw
