/-
  Arguments that hold values and declarations, opened by how much fuel reads them; how great they are against their bulk. Lists of declarations as arguments.
  No conditions.
-/
import Derived.Test.YtmbpiloibhbmbaaDoorL2
import Derived.Test.YtmbpiloibhbmbaaDoorR1
import Derived.Test.YtmbpiloibhbmbaaDoorRows
import Derived.Test.YtmbpiloibhbmbaaDoorR2
set_option linter.unusedVariables false
set_option linter.unusedSimpArgs false
section
namespace Go.Proofs.YtmbpiloibhbmbaaDoor
open Go Go.Aw Go.Nst Go.ChangeShapes Go.WideShapes Go.ChangeAt Go.RowKit
set_option maxRecDepth 100000
def OpB (F : Nat) (P : Program) (t : TypeId) {X : Type} (ea : X → List AV) (sz : X → Nat) : Prop :=
  ∀ (H : Type) (enc : TypeId × Value → H) (W : World) (fuel : Nat) (cs : List Value) (d : DataW H) (ps : List MemPlace), fuel ≤ F →
    DataW.trod enc P W 0 (fun _ => true) true fuel t cs = some (d, ps) → ∃ x, RepL [] (old W) W (ea x) cs ∧ cs.length = P.cellsOf t ∧ sz x ≤ Rows.uptoBulk d
theorem opb_int {F : Nat} {P : Program} {t : TypeId} {k : IntKind} (ht : P.underlying t = some (.int k)) (hc : P.cellsOf t = 1) : OpB F P t (fun n : Int => [.v (.int k n)]) (fun _ => 1) := by
  intro H enc W fuel cs d ps _ h
  obtain ⟨n, rfl, e, hn⟩ := DataW.trod_int ht h
  simp only [Prod.mk.injEq] at e
  obtain ⟨rfl, _⟩ := e
  exact ⟨n, by simp, by simp [hc], by simp [Rows.uptoBulk]⟩
theorem opb_bool {F : Nat} {P : Program} {t : TypeId} (ht : P.underlying t = some .bool) (hc : P.cellsOf t = 1) : OpB F P t (fun b : Bool => [.v (.bool b)]) (fun _ => 1) := by
  intro H enc W fuel cs d ps _ h
  obtain ⟨n, rfl, e⟩ := DataW.trod_bool ht h
  simp only [Prod.mk.injEq] at e
  obtain ⟨rfl, _⟩ := e
  exact ⟨n, by simp, by simp [hc], by simp [Rows.uptoBulk]⟩
theorem opb_string {F : Nat} {P : Program} {t : TypeId} (ht : P.underlying t = some .string) (hc : P.cellsOf t = 1) : OpB F P t (fun s : List UInt8 => [.str s]) (fun s => s.length + 1) := by
  intro H enc W fuel cs d ps _ h
  obtain ⟨s, rfl, e, hs⟩ := DataW.trod_string ht h
  simp only [Prod.mk.injEq] at e
  obtain ⟨rfl, _⟩ := e
  exact ⟨s.data.toList, by simpa using hs, by simp [hc], by simp [Rows.uptoBulk]⟩
theorem bulk_append {H : Type} : ∀ a b : List (DataW H), Rows.uptoBulkAll (a ++ b) = Rows.uptoBulkAll a + Rows.uptoBulkAll b
  | [], b => by simp [Rows.uptoBulkAll]
  | x :: a, b => by rw [List.cons_append, Rows.uptoBulkAll, Rows.uptoBulkAll, bulk_append a b]; omega
theorem opb_slice {F : Nat} {P : Program} {t e : TypeId} {X : Type} {ea : X → List AV} {sz : X → Nat} (ht : P.underlying t = some (.slice e)) (hc : P.cellsOf t = 1) (hpos : 0 < P.cellsOf e) (hx : OpB F P e ea sz) :
    OpB F P t (fun l : List X => [.sl (P.cellsOf e) (l.map ea)]) (fun l => (l.map sz).sum + 1) := by
  intro H enc W fuel cs d ps hF h
  obtain ⟨rfl, e1⟩ | ⟨a, len, cap, elems, rest, n, rfl, rfl, e1, _, hlc, hcm, hlen, hel, _, _⟩ := DataW.trod_slice ht h
  · simp only [Prod.mk.injEq] at e1
    obtain ⟨rfl, _⟩ := e1
    refine ⟨[], ?_, by simp [hc], by simp [Rows.uptoBulk]⟩
    simp only [List.map_nil, RepL_cons, RepL_nil, and_true]
    rw [Rep]
    exact ⟨none, 0, rfl, Nat.le_refl _, Nat.zero_le _, .inl rfl⟩
  · simp only [Prod.mk.injEq] at e1
    obtain ⟨rfl, _⟩ := e1
    have key : ∀ i, (hi : i < elems.length) → ∃ x, sz x ≤ Rows.uptoBulk (elems[i]).1 ∧ ∃ us : List Value, RepL [] (old W) W (ea x) us ∧ us.length = P.cellsOf e ∧ ∀ j, j < us.length → W.cell? ((a.add (i * P.cellsOf e)).add j) = us[j]? := by
      intro i hi
      have h0 := hel i (by omega)
      rw [List.getElem?_eq_getElem hi] at h0
      obtain ⟨us, hus, hu⟩ := Option.bind_eq_some_iff.1 h0
      obtain ⟨_, hul, huc⟩ := World.cells?_some hus
      obtain ⟨x, h2, h3, h4⟩ := hx H enc W n us elems[i].1 elems[i].2 (by omega) hu
      exact ⟨x, h4, us, h2, h3, fun j hj => huc j (by omega)⟩
    have hlist : ∀ k, k ≤ len → ∃ l : List X, l.length = k ∧ (l.map sz).sum ≤ Rows.uptoBulkAll ((elems.take k).map (·.1)) ∧ ∀ i x, l[i]? = some x → ∃ us : List Value, RepL [] (old W) W (ea x) us ∧ us.length = P.cellsOf e ∧ ∀ j, j < us.length → W.cell? ((a.add (i * P.cellsOf e)).add j) = us[j]? := by
      intro k
      induction k with
      | zero => intro _; exact ⟨[], rfl, by simp, by simp⟩
      | succ k ih =>
        intro hk
        obtain ⟨l, hl, hs, hi⟩ := ih (by omega)
        obtain ⟨x, hx1, hx2⟩ := key k (by omega)
        refine ⟨l ++ [x], by simp [hl], ?_, fun i y hy => ?_⟩
        · rw [List.take_add_one, List.getElem?_eq_getElem (by omega), Option.toList_some]
          simp only [List.map_append, bulk_append, List.sum_append, List.map_cons, List.map_nil, List.sum_cons, List.sum_nil, Rows.uptoBulkAll]
          omega
        rcases Nat.lt_trichotomy i k with q | q | q
        · rw [List.getElem?_append_left (by omega)] at hy
          exact hi i y hy
        · subst q
          rw [List.getElem?_append_right (by omega)] at hy
          simp [hl] at hy
          subst hy
          exact hx2
        · rw [List.getElem?_eq_none (by simp; omega)] at hy
          cases hy
    obtain ⟨l, hl, hs, hi⟩ := hlist len (by omega)
    rw [List.take_of_length_le (by omega)] at hs
    refine ⟨l, ?_, by simp [hc], by show (l.map sz).sum + 1 ≤ _; rw [Rows.uptoBulk]; omega⟩
    simp only [RepL_cons, RepL_nil, and_true]
    rw [Rep]
    refine ⟨some a, cap, by simp [hl], by simpa [hl] using hlc, hcm, ?_⟩
    cases l with
    | nil => exact .inl rfl
    | cons x0 l0 =>
      right
      obtain ⟨us0, _, hu0, hu1⟩ := hi 0 x0 rfl
      obtain ⟨b, off, spot⟩ := a
      have hsp : spot = none := by
        have h1 := hu1 0 (by omega)
        rw [List.getElem?_eq_getElem (by omega)] at h1
        simpa [Addr.add] using World.cell?_spot h1
      subst hsp
      refine ⟨b, off, rfl, RepR.mk fun i r hr => ?_⟩
      rw [List.getElem?_map] at hr
      cases hxi : (x0 :: l0)[i]? with
      | none => rw [hxi] at hr; cases hr
      | some x =>
        rw [hxi] at hr
        cases hr
        obtain ⟨us, k1, k2, k3⟩ := hi i x hxi
        refine ⟨by rw [k1.length]; exact k2, RepC.mk fun j c ec => ?_⟩
        obtain ⟨u, e1, e2⟩ := k1.get j c ec
        have h1 := k3 j (List.getElem?_eq_some_iff.1 e1).1
        rw [e1, Aw.add_plain, Aw.add_plain] at h1
        refine ⟨u, h1, ?_, e2⟩
        show b < W.heap.size
        unfold World.cell? at h1
        split at h1
        · rename_i c1 c2 c3 hh
          exact (Array.getElem?_eq_some_iff.1 hh).1
        · cases h1
theorem OpB.mono {F F' : Nat} {P : Program} {t : TypeId} {X : Type} {ea : X → List AV} {sz : X → Nat} (h : OpB F P t ea sz) (hF : F' ≤ F) : OpB F' P t ea sz :=
  fun H enc W fuel cs d ps q e => h H enc W fuel cs d ps (by omega) e
theorem one_cell {cs : List Value} (h : cs.length = 1) : ∃ c, cs = [c] := by
  match cs, h with
  | [c], _ => exact ⟨c, rfl⟩
theorem sum_zVs : ∀ l : List Vl, (l.map zV).sum = zVs l
  | [] => by simp [zVs]
  | x :: l => by rw [List.map_cons, List.sum_cons, zVs, sum_zVs l]
abbrev Tkn := Int × Str × Int × Str × Bool
def encTk (x : Tkn) : List AV := [.v (.int .u8 x.1), .str x.2.1, int x.2.2.1, .str x.2.2.2.1, bool x.2.2.2.2]
theorem opb_token (F : Nat) : OpB F Tryd.prog 55 encTk (fun x => 1 + x.2.1.length + x.2.2.2.1.length) := by
  intro H enc W fuel cs d ps hF h
  obtain ⟨xs, n, rfl, e1, hl, hn, hf⟩ := DataW.trod_struct Tryd.underlying55 h
  match xs, hn with
  | [y0, y1, y2, y3, y4], _ =>
    have h0 := hf 0 _ rfl
    have h1 := hf 1 _ rfl
    have h2 := hf 2 _ rfl
    have h3 := hf 3 _ rfl
    have h4 := hf 4 _ rfl
    rw [show Tryd.prog.cellsOf 55 = 5 by kernel_rfl] at hl
    match cs, hl with
    | [c0, c1, c2, c3, c4], _ =>
      obtain ⟨k, r0, _, _⟩ := opb_int (F := n) Tryd.underlying5 (by kernel_rfl) H enc W n _ y0.1 y0.2 (Nat.le_refl _) h0
      obtain ⟨t, r1, _, z1⟩ := opb_string (F := n) Tryd.underlying9 (by kernel_rfl) H enc W n _ y1.1 y1.2 (Nat.le_refl _) h1
      obtain ⟨m, r2, _, _⟩ := opb_int (F := n) Tryd.underlying2 (by kernel_rfl) H enc W n _ y2.1 y2.2 (Nat.le_refl _) h2
      obtain ⟨u, r3, _, z3⟩ := opb_string (F := n) Tryd.underlying9 (by kernel_rfl) H enc W n _ y3.1 y3.2 (Nat.le_refl _) h3
      obtain ⟨f, r4, _, _⟩ := opb_bool (F := n) Tryd.underlying4 (by kernel_rfl) H enc W n _ y4.1 y4.2 (Nat.le_refl _) h4
      simp only [Prod.mk.injEq] at e1
      obtain ⟨rfl, _⟩ := e1
      have r0 : RepL [] (old W) W [.v (.int .u8 k)] [c0] := r0
      have r1 : RepL [] (old W) W [.str t] [c1] := r1
      have r2 : RepL [] (old W) W [int m] [c2] := r2
      have r3 : RepL [] (old W) W [.str u] [c3] := r3
      have r4 : RepL [] (old W) W [bool f] [c4] := r4
      refine ⟨(k, t, m, u, f), (((r0.append r1).append r2).append r3).append r4, by rw [show Tryd.prog.cellsOf 55 = 5 by kernel_rfl]; rfl, ?_⟩
      simp only at z1 z3
      rw [Rows.uptoBulk]
      simp only [List.map_cons, List.map_nil, Rows.uptoBulkAll]
      omega
theorem opb_value {F : Nat} (hL : OpB F Tryd.prog 37 (fun l : List Vl => [.sl 6 (encVs l)]) (fun l => zVs l + 1)) : OpB (F + 1) Tryd.prog 57 encV zV := by
  intro H enc W fuel cs d ps hF h
  obtain ⟨xs, n, rfl, e1, hl, hn, hf⟩ := DataW.trod_struct Tryd.underlying57 h
  match xs, hn with
  | [y0, y1], _ =>
    have h0 := hf 0 _ rfl
    have h1 := hf 1 _ rfl
    rw [show Tryd.prog.cellsOf 57 = 6 by kernel_rfl] at hl
    match cs, hl with
    | [c0, c1, c2, c3, c4, c5], _ =>
      obtain ⟨⟨k, t, m, u, f⟩, r0, _, z0⟩ := opb_token n H enc W n _ y0.1 y0.2 (Nat.le_refl _) h0
      obtain ⟨l, r1, _, z1⟩ := hL H enc W n _ y1.1 y1.2 (by omega) h1
      simp only [Prod.mk.injEq] at e1
      obtain ⟨rfl, _⟩ := e1
      have r0 : RepL [] (old W) W (encTk (k, t, m, u, f)) [c0, c1, c2, c3, c4] := r0
      have r1 : RepL [] (old W) W [.sl 6 (encVs l)] [c5] := r1
      refine ⟨.mk k t m u f l, ?_, by rw [show Tryd.prog.cellsOf 57 = 6 by kernel_rfl]; rfl, ?_⟩
      · rw [encV]
        exact r0.append r1
      · simp only at z0 z1
        rw [zV, Rows.uptoBulk]
        simp only [List.map_cons, List.map_nil, Rows.uptoBulkAll]
        omega
theorem opb_vals : ∀ F, OpB F Tryd.prog 57 encV zV
  | 0 => fun H enc W fuel cs d ps hF h => by
    obtain rfl : fuel = 0 := by omega
    simp [DataW.trod] at h
  | F + 1 => by
    have a := opb_slice Tryd.underlying37 (by kernel_rfl) (Nat.le_of_ble_eq_true (by kernel_rfl)) (opb_vals F)
    rw [show Tryd.prog.cellsOf 57 = 6 by kernel_rfl] at a
    simp only [sum_zVs, ← encVs_map] at a
    exact opb_value a
theorem opb_list (F : Nat) : OpB F Tryd.prog 37 (fun l : List Vl => [.sl 6 (encVs l)]) (fun l => zVs l + 1) := by
  have a := opb_slice Tryd.underlying37 (by kernel_rfl) (Nat.le_of_ble_eq_true (by kernel_rfl)) (opb_vals F)
  rw [show Tryd.prog.cellsOf 57 = 6 by kernel_rfl] at a
  simpa only [sum_zVs, ← encVs_map] using a
theorem opb_long (F : Nat) : OpB F Tryd.prog 39 (fun x : Str × List Vl × Str => [.str x.1, .sl 6 (encVs x.2.1), .str x.2.2]) (fun x => x.1.length + zVs x.2.1 + x.2.2.length) := by
  intro H enc W fuel cs d ps hF h
  obtain ⟨xs, n, rfl, e1, hl, hn, hf⟩ := DataW.trod_struct Tryd.underlying39 h
  match xs, hn with
  | [y0, y1, y2], _ =>
    have h0 := hf 0 _ rfl
    have h1 := hf 1 _ rfl
    have h2 := hf 2 _ rfl
    rw [show Tryd.prog.cellsOf 39 = 3 by kernel_rfl] at hl
    match cs, hl with
    | [c0, c1, c2], _ =>
      obtain ⟨a, r0, _, z0⟩ := opb_string (F := n) Tryd.underlying9 (by kernel_rfl) H enc W n _ y0.1 y0.2 (Nat.le_refl _) h0
      obtain ⟨l, r1, _, z1⟩ := opb_list n H enc W n _ y1.1 y1.2 (Nat.le_refl _) h1
      obtain ⟨b, r2, _, z2⟩ := opb_string (F := n) Tryd.underlying9 (by kernel_rfl) H enc W n _ y2.1 y2.2 (Nat.le_refl _) h2
      simp only [Prod.mk.injEq] at e1
      obtain ⟨rfl, _⟩ := e1
      have r0 : RepL [] (old W) W [.str a] [c0] := r0
      have r1 : RepL [] (old W) W [.sl 6 (encVs l)] [c1] := r1
      have r2 : RepL [] (old W) W [.str b] [c2] := r2
      refine ⟨(a, l, b), (r0.append r1).append r2, by rw [show Tryd.prog.cellsOf 39 = 3 by kernel_rfl]; rfl, ?_⟩
      simp only at z0 z1 z2
      rw [Rows.uptoBulk]
      simp only [List.map_cons, List.map_nil, Rows.uptoBulkAll]
      omega
theorem opb_weight (F : Nat) : OpB F Tryd.prog 41 (fun x : Int × Int × Int => [int x.1, int x.2.1, int x.2.2]) (fun _ => 1) := by
  intro H enc W fuel cs d ps hF h
  obtain ⟨xs, n, rfl, e1, hl, hn, hf⟩ := DataW.trod_array Tryd.underlying41 h
  match xs, hn with
  | [y0, y1, y2], _ =>
    have h0 := hf 0 (by omega)
    have h1 := hf 1 (by omega)
    have h2 := hf 2 (by omega)
    rw [show Tryd.prog.cellsOf 41 = 3 by kernel_rfl] at hl
    match cs, hl with
    | [c0, c1, c2], _ =>
      obtain ⟨a, r0, _, _⟩ := opb_int (F := n) Tryd.underlying3 (by kernel_rfl) H enc W n _ y0.1 y0.2 (Nat.le_refl _) h0
      obtain ⟨b, r1, _, _⟩ := opb_int (F := n) Tryd.underlying3 (by kernel_rfl) H enc W n _ y1.1 y1.2 (Nat.le_refl _) h1
      obtain ⟨c, r2, _, _⟩ := opb_int (F := n) Tryd.underlying3 (by kernel_rfl) H enc W n _ y2.1 y2.2 (Nat.le_refl _) h2
      simp only [Prod.mk.injEq] at e1
      obtain ⟨rfl, _⟩ := e1
      have r0 : RepL [] (old W) W [int a] [c0] := r0
      have r1 : RepL [] (old W) W [int b] [c1] := r1
      have r2 : RepL [] (old W) W [int c] [c2] := r2
      exact ⟨(a, b, c), (r0.append r1).append r2, by rw [show Tryd.prog.cellsOf 41 = 3 by kernel_rfl]; rfl, by show 1 ≤ _; rw [Rows.uptoBulk]; omega⟩
def szD (x : Dc) : Nat := x.name.length + zVs x.value + x.whole.length
theorem opb_declared (F : Nat) : OpB F Tryd.prog 43 encD (fun x => szD x + 1) := by
  intro H enc W fuel cs d ps hF h
  obtain ⟨xs, n, rfl, e1, hl, hn, hf⟩ := DataW.trod_struct Tryd.underlying43 h
  match xs, hn with
  | [y0, y1, y2, y3, y4, y5, y6], _ =>
    have h0 := hf 0 _ rfl
    have h1 := hf 1 _ rfl
    have h2 := hf 2 _ rfl
    have h3 := hf 3 _ rfl
    have h4 := hf 4 _ rfl
    have h5 := hf 5 _ rfl
    have h6 := hf 6 _ rfl
    rw [show Tryd.prog.cellsOf 43 = 11 by kernel_rfl] at hl
    match cs, hl with
    | [c0, c1, c2, c3, c4, c5, c6, c7, c8, c9, c10], _ =>
      obtain ⟨⟨na, va, wh⟩, r0, _, z0⟩ := opb_long n H enc W n _ y0.1 y0.2 (Nat.le_refl _) h0
      obtain ⟨im, r1, _, _⟩ := opb_bool (F := n) Tryd.underlying4 (by kernel_rfl) H enc W n _ y1.1 y1.2 (Nat.le_refl _) h1
      obtain ⟨og, r2, _, _⟩ := opb_int (F := n) Tryd.underlying5 (by kernel_rfl) H enc W n _ y2.1 y2.2 (Nat.le_refl _) h2
      obtain ⟨at', r3, _, _⟩ := opb_bool (F := n) Tryd.underlying4 (by kernel_rfl) H enc W n _ y3.1 y3.2 (Nat.le_refl _) h3
      obtain ⟨la, r4, _, _⟩ := opb_int (F := n) Tryd.underlying3 (by kernel_rfl) H enc W n _ y4.1 y4.2 (Nat.le_refl _) h4
      obtain ⟨⟨w0, w1, w2⟩, r5, _, _⟩ := opb_weight n H enc W n _ y5.1 y5.2 (Nat.le_refl _) h5
      obtain ⟨od, r6, _, _⟩ := opb_int (F := n) Tryd.underlying3 (by kernel_rfl) H enc W n _ y6.1 y6.2 (Nat.le_refl _) h6
      simp only [Prod.mk.injEq] at e1
      obtain ⟨rfl, _⟩ := e1
      have r0 : RepL [] (old W) W [.str na, .sl 6 (encVs va), .str wh] [c0, c1, c2] := r0
      have r1 : RepL [] (old W) W [bool im] [c3] := r1
      have r2 : RepL [] (old W) W [.v (.int .u8 og)] [c4] := r2
      have r3 : RepL [] (old W) W [bool at'] [c5] := r3
      have r4 : RepL [] (old W) W [int la] [c6] := r4
      have r5 : RepL [] (old W) W [int w0, int w1, int w2] [c7, c8, c9] := r5
      have r6 : RepL [] (old W) W [int od] [c10] := r6
      refine ⟨⟨na, va, wh, im, og, at', la, w0, w1, w2, od⟩, (((((r0.append r1).append r2).append r3).append r4).append r5).append r6, by rw [show Tryd.prog.cellsOf 43 = 11 by kernel_rfl]; rfl, ?_⟩
      simp only at z0
      show szD _ + 1 ≤ _
      unfold szD
      rw [Rows.uptoBulk]
      simp only [List.map_cons, List.map_nil, Rows.uptoBulkAll]
      omega
/-- A declaration. -/
theorem decl_of {H : Type} {enc : TypeId × Value → H} {W : World} {v : Value} {d : DataW H} {ps : List MemPlace} (hv : ∃ cs, v = .agg cs) (h : DataW.Trod enc Tryd.prog W 0 (fun _ => true) true 43 v d ps) :
    ∃ x : Dc, Rep [] (old W) W (.agg (encD x)) v ∧ szD x ≤ Rows.uptoBulk d := by
  obtain ⟨cs, rfl⟩ := hv
  obtain ⟨fuel, h⟩ := h
  obtain ⟨x, h2, _, h4⟩ := opb_declared fuel H enc W fuel _ d ps (Nat.le_refl _) h
  refine ⟨x, ?_, by simp only at h4; omega⟩
  rw [Rep]
  exact ⟨cs.toList, by simp, h2⟩
end Go.Proofs.YtmbpiloibhbmbaaDoor
end

section
namespace Go.Proofs.YtmbpiloibhbmbaaDoor
open Go Go.Aw Go.Nst Go.ChangeShapes Go.WideShapes Go.ChangeAt Go.RowKit
set_option maxRecDepth 100000
theorem sum_memD {α : Type} {f : α → Nat} : ∀ {l : List α} {x : α}, x ∈ l → f x ≤ (l.map f).sum
  | [], x, h => by cases h
  | y :: l, x, h => by
    rw [List.map_cons, List.sum_cons]
    rcases List.mem_cons.1 h with rfl | h
    · omega
    · have := sum_memD (f := f) h; omega
theorem sum_lenD {α : Type} {f : α → Nat} (hf : ∀ x, 1 ≤ f x) : ∀ (l : List α), l.length ≤ (l.map f).sum
  | [] => by simp
  | y :: l => by
    rw [List.map_cons, List.sum_cons, List.length_cons]
    have := sum_lenD hf l; have := hf y; omega
theorem opb_decls (F : Nat) : OpB F Tryd.prog 22 (fun l : List Dc => [.sl 11 (encDs l)]) (fun l => (l.map fun x => szD x + 1).sum + 1) := by
  have a := opb_slice Tryd.underlying22 (by kernel_rfl) (Nat.le_of_ble_eq_true (by kernel_rfl)) (opb_declared F)
  rw [show Tryd.prog.cellsOf 43 = 11 by kernel_rfl] at a
  exact a
theorem decls_of {H : Type} {enc : TypeId × Value → H} {W : World} {v : Value} {d : DataW H} {ps : List MemPlace} (hna : ∀ cs, v ≠ .agg cs) (hnt : ∀ cs, v ≠ .tuple cs) (h : DataW.Trod enc Tryd.prog W 0 (fun _ => true) true 22 v d ps) (hb : Rows.uptoBulk d ≤ 1048576) :
    ∃ l : List Dc, Rep [] (old W) W (.sl 11 (encDs l)) v ∧ l.length < 2 ^ 38 ∧ ∀ x ∈ l, smallD x := by
  obtain ⟨fuel, h⟩ := h
  obtain ⟨l, h2, _, h4⟩ := opb_decls fuel H enc W fuel _ d ps (Nat.le_refl _) h
  have e : v.cells.toList = [v] := by
    cases v <;> first | rfl | (exact absurd rfl (hna _)) | (exact absurd rfl (hnt _))
  rw [e] at h2
  have h5 := sum_lenD (f := fun x : Dc => szD x + 1) (fun _ => by omega) l
  simp only at h4
  refine ⟨l, by simpa using h2, by omega, fun x hx => ?_⟩
  have h6 := sum_memD (f := fun x : Dc => szD x + 1) hx
  simp only [szD] at h6 h4
  exact ⟨by omega, by omega, by omega⟩
end Go.Proofs.YtmbpiloibhbmbaaDoor
end
