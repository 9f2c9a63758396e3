/-
  Arguments that are lists of selectors, opened by how much fuel reads them; how great they are against their bulk. Lists of selectors, opened: numbers that stand for a place in a table are not below 0.
  No conditions.
-/
import Derived.Test.YthblflmjingcfaaGreatDoorL2
import Derived.Test.YthblflmjingcfaaGreatDoorSel
import Derived.Test.YthblflmjingcfaaGreatDoorRows
import Derived.Test.YthblflmjingcfaaGreatDoorH2
set_option linter.unusedVariables false
set_option linter.unusedSimpArgs false
section
namespace Go.Proofs.YthblflmjingcfaaGreatDoor
open Go Go.Aw Go.Sel Go.ChangeShapes Go.WideShapes Go.ChangeAt Go.RowKit
set_option maxRecDepth 100000
def OpB (F : Nat) (P : Program) (t : TypeId) {X : Type} (ea : X → List AV) (sz : X → Nat) : Prop :=
  ∀ (H : Type) (enc : TypeId × Value → H) (W : World) (fuel : Nat) (cs : List Value) (d : DataW H) (ps : List MemPlace), fuel ≤ F →
    DataW.trod enc P W 0 (fun _ => true) true fuel t cs = some (d, ps) → ∃ x, RepL [] (old W) W (ea x) cs ∧ cs.length = P.cellsOf t ∧ sz x ≤ Rows.uptoBulk d
theorem opb_int {F : Nat} {P : Program} {t : TypeId} {k : IntKind} (ht : P.underlying t = some (.int k)) (hc : P.cellsOf t = 1) : OpB F P t (fun n : Int => [.v (.int k n)]) (fun _ => 1) := by
  intro H enc W fuel cs d ps _ h
  obtain ⟨n, rfl, e, hn⟩ := DataW.trod_int ht h
  simp only [Prod.mk.injEq] at e
  obtain ⟨rfl, _⟩ := e
  exact ⟨n, by simp, by simp [hc], by simp [Rows.uptoBulk]⟩
theorem opb_bool {F : Nat} {P : Program} {t : TypeId} (ht : P.underlying t = some .bool) (hc : P.cellsOf t = 1) : OpB F P t (fun b : Bool => [.v (.bool b)]) (fun _ => 1) := by
  intro H enc W fuel cs d ps _ h
  obtain ⟨n, rfl, e⟩ := DataW.trod_bool ht h
  simp only [Prod.mk.injEq] at e
  obtain ⟨rfl, _⟩ := e
  exact ⟨n, by simp, by simp [hc], by simp [Rows.uptoBulk]⟩
theorem opb_string {F : Nat} {P : Program} {t : TypeId} (ht : P.underlying t = some .string) (hc : P.cellsOf t = 1) : OpB F P t (fun s : List UInt8 => [.str s]) (fun s => s.length + 1) := by
  intro H enc W fuel cs d ps _ h
  obtain ⟨s, rfl, e, hs⟩ := DataW.trod_string ht h
  simp only [Prod.mk.injEq] at e
  obtain ⟨rfl, _⟩ := e
  exact ⟨s.data.toList, by simpa using hs, by simp [hc], by simp [Rows.uptoBulk]⟩
theorem bulk_append {H : Type} : ∀ a b : List (DataW H), Rows.uptoBulkAll (a ++ b) = Rows.uptoBulkAll a + Rows.uptoBulkAll b
  | [], b => by simp [Rows.uptoBulkAll]
  | x :: a, b => by rw [List.cons_append, Rows.uptoBulkAll, Rows.uptoBulkAll, bulk_append a b]; omega
theorem opb_slice {F : Nat} {P : Program} {t e : TypeId} {X : Type} {ea : X → List AV} {sz : X → Nat} (ht : P.underlying t = some (.slice e)) (hc : P.cellsOf t = 1) (hpos : 0 < P.cellsOf e) (hx : OpB F P e ea sz) :
    OpB F P t (fun l : List X => [.sl (P.cellsOf e) (l.map ea)]) (fun l => (l.map sz).sum + 1) := by
  intro H enc W fuel cs d ps hF h
  obtain ⟨rfl, e1⟩ | ⟨a, len, cap, elems, rest, n, rfl, rfl, e1, _, hlc, hcm, hlen, hel, _, _⟩ := DataW.trod_slice ht h
  · simp only [Prod.mk.injEq] at e1
    obtain ⟨rfl, _⟩ := e1
    refine ⟨[], ?_, by simp [hc], by simp [Rows.uptoBulk]⟩
    simp only [List.map_nil, RepL_cons, RepL_nil, and_true]
    rw [Rep]
    exact ⟨none, 0, rfl, Nat.le_refl _, Nat.zero_le _, .inl rfl⟩
  · simp only [Prod.mk.injEq] at e1
    obtain ⟨rfl, _⟩ := e1
    have key : ∀ i, (hi : i < elems.length) → ∃ x, sz x ≤ Rows.uptoBulk (elems[i]).1 ∧ ∃ us : List Value, RepL [] (old W) W (ea x) us ∧ us.length = P.cellsOf e ∧ ∀ j, j < us.length → W.cell? ((a.add (i * P.cellsOf e)).add j) = us[j]? := by
      intro i hi
      have h0 := hel i (by omega)
      rw [List.getElem?_eq_getElem hi] at h0
      obtain ⟨us, hus, hu⟩ := Option.bind_eq_some_iff.1 h0
      obtain ⟨_, hul, huc⟩ := World.cells?_some hus
      obtain ⟨x, h2, h3, h4⟩ := hx H enc W n us elems[i].1 elems[i].2 (by omega) hu
      exact ⟨x, h4, us, h2, h3, fun j hj => huc j (by omega)⟩
    have hlist : ∀ k, k ≤ len → ∃ l : List X, l.length = k ∧ (l.map sz).sum ≤ Rows.uptoBulkAll ((elems.take k).map (·.1)) ∧ ∀ i x, l[i]? = some x → ∃ us : List Value, RepL [] (old W) W (ea x) us ∧ us.length = P.cellsOf e ∧ ∀ j, j < us.length → W.cell? ((a.add (i * P.cellsOf e)).add j) = us[j]? := by
      intro k
      induction k with
      | zero => intro _; exact ⟨[], rfl, by simp, by simp⟩
      | succ k ih =>
        intro hk
        obtain ⟨l, hl, hs, hi⟩ := ih (by omega)
        obtain ⟨x, hx1, hx2⟩ := key k (by omega)
        refine ⟨l ++ [x], by simp [hl], ?_, fun i y hy => ?_⟩
        · rw [List.take_add_one, List.getElem?_eq_getElem (by omega), Option.toList_some]
          simp only [List.map_append, bulk_append, List.sum_append, List.map_cons, List.map_nil, List.sum_cons, List.sum_nil, Rows.uptoBulkAll]
          omega
        rcases Nat.lt_trichotomy i k with q | q | q
        · rw [List.getElem?_append_left (by omega)] at hy
          exact hi i y hy
        · subst q
          rw [List.getElem?_append_right (by omega)] at hy
          simp [hl] at hy
          subst hy
          exact hx2
        · rw [List.getElem?_eq_none (by simp; omega)] at hy
          cases hy
    obtain ⟨l, hl, hs, hi⟩ := hlist len (by omega)
    rw [List.take_of_length_le (by omega)] at hs
    refine ⟨l, ?_, by simp [hc], by show (l.map sz).sum + 1 ≤ _; rw [Rows.uptoBulk]; omega⟩
    simp only [RepL_cons, RepL_nil, and_true]
    rw [Rep]
    refine ⟨some a, cap, by simp [hl], by simpa [hl] using hlc, hcm, ?_⟩
    cases l with
    | nil => exact .inl rfl
    | cons x0 l0 =>
      right
      obtain ⟨us0, _, hu0, hu1⟩ := hi 0 x0 rfl
      obtain ⟨b, off, spot⟩ := a
      have hsp : spot = none := by
        have h1 := hu1 0 (by omega)
        rw [List.getElem?_eq_getElem (by omega)] at h1
        simpa [Addr.add] using World.cell?_spot h1
      subst hsp
      refine ⟨b, off, rfl, RepR.mk fun i r hr => ?_⟩
      rw [List.getElem?_map] at hr
      cases hxi : (x0 :: l0)[i]? with
      | none => rw [hxi] at hr; cases hr
      | some x =>
        rw [hxi] at hr
        cases hr
        obtain ⟨us, k1, k2, k3⟩ := hi i x hxi
        refine ⟨by rw [k1.length]; exact k2, RepC.mk fun j c ec => ?_⟩
        obtain ⟨u, e1, e2⟩ := k1.get j c ec
        have h1 := k3 j (List.getElem?_eq_some_iff.1 e1).1
        rw [e1, Aw.add_plain, Aw.add_plain] at h1
        refine ⟨u, h1, ?_, e2⟩
        show b < W.heap.size
        unfold World.cell? at h1
        split at h1
        · rename_i c1 c2 c3 hh
          exact (Array.getElem?_eq_some_iff.1 hh).1
        · cases h1
theorem OpB.mono {F F' : Nat} {P : Program} {t : TypeId} {X : Type} {ea : X → List AV} {sz : X → Nat} (h : OpB F P t ea sz) (hF : F' ≤ F) : OpB F' P t ea sz :=
  fun H enc W fuel cs d ps q e => h H enc W fuel cs d ps (by omega) e
theorem one_cell {cs : List Value} (h : cs.length = 1) : ∃ c, cs = [c] := by
  match cs, h with
  | [c], _ => exact ⟨c, rfl⟩
theorem sum_zXs : ∀ l : List Cx, (l.map zX).sum = zXs l
  | [] => by simp [zXs]
  | x :: l => by rw [List.map_cons, List.sum_cons, zXs, sum_zXs l]
theorem sum_zPs : ∀ l : List Cp, (l.map zP).sum = zPs l
  | [] => by simp [zPs]
  | x :: l => by rw [List.map_cons, List.sum_cons, zPs, sum_zPs l]
theorem sum_zSs : ∀ l : List Sm, (l.map zS).sum = zSs l
  | [] => by simp [zSs]
  | x :: l => by rw [List.map_cons, List.sum_cons, zSs, sum_zSs l]
theorem sum_one : ∀ l : List Int, (l.map fun _ => 1).sum = l.length
  | [] => rfl
  | x :: l => by rw [List.map_cons, List.sum_cons, sum_one l]; simp; omega
theorem opb_anb (F : Nat) : OpB F Tryz.prog 51 (fun p : Int × Int => [int p.1, int p.2]) (fun _ => 1) := by
  intro H enc W fuel cs d ps hF h
  obtain ⟨xs, n, rfl, e1, hl, hn, hf⟩ := DataW.trod_struct Tryz.underlying51 h
  match xs, hn with
  | [y0, y1], _ =>
    have h0 := hf 0 _ rfl
    have h1 := hf 1 _ rfl
    rw [show Tryz.prog.cellsOf 51 = 2 by kernel_rfl] at hl
    match cs, hl with
    | [c0, c1], _ =>
      obtain ⟨a, ra, _, _⟩ := opb_int (F := n) Tryz.underlying2 (by kernel_rfl) H enc W n _ y0.1 y0.2 (Nat.le_refl _) h0
      obtain ⟨b, rb, _, _⟩ := opb_int (F := n) Tryz.underlying2 (by kernel_rfl) H enc W n _ y1.1 y1.2 (Nat.le_refl _) h1
      simp only [Prod.mk.injEq] at e1
      obtain ⟨rfl, _⟩ := e1
      have ra : RepL [] (old W) W [int a] [c0] := ra
      have rb : RepL [] (old W) W [int b] [c1] := rb
      refine ⟨(a, b), by simpa using ⟨by simpa using ra, by simpa using rb⟩, by rw [show Tryz.prog.cellsOf 51 = 2 by kernel_rfl]; rfl, by show 1 ≤ _; rw [Rows.uptoBulk]; omega⟩
theorem opb_simple {F : Nat} (hX : OpB F Tryz.prog 22 (fun l : List Cx => [.sl 3 (encXs l)]) (fun l => zXs l + 1)) : OpB F Tryz.prog 53 encS zS := by
  intro H enc W fuel cs d ps hF h
  obtain ⟨xs, n, rfl, e1, hl, hn, hf⟩ := DataW.trod_struct Tryz.underlying53 h
  match xs, hn with
  | [y0, y1, y2, y3, y4, y5, y6, y7], _ =>
    have h0 := hf 0 _ rfl
    have h1 := hf 1 _ rfl
    have h2 := hf 2 _ rfl
    have h3 := hf 3 _ rfl
    have h4 := hf 4 _ rfl
    have h5 := hf 5 _ rfl
    have h6 := hf 6 _ rfl
    have h7 := hf 7 _ rfl
    rw [show Tryz.prog.cellsOf 53 = 9 by kernel_rfl] at hl
    match cs, hl with
    | [c0, c1, c2, c3, c4, c5, c5', c6, c7], _ =>
      obtain ⟨k, r0, _, _⟩ := opb_int (F := n) Tryz.underlying5 (by kernel_rfl) H enc W n _ y0.1 y0.2 (Nat.le_refl _) h0
      obtain ⟨na, r1, _, z1⟩ := opb_string (F := n) Tryz.underlying9 (by kernel_rfl) H enc W n _ y1.1 y1.2 (Nat.le_refl _) h1
      obtain ⟨o, r2, _, _⟩ := opb_int (F := n) Tryz.underlying5 (by kernel_rfl) H enc W n _ y2.1 y2.2 (Nat.le_refl _) h2
      obtain ⟨v, r3, _, z3⟩ := opb_string (F := n) Tryz.underlying9 (by kernel_rfl) H enc W n _ y3.1 y3.2 (Nat.le_refl _) h3
      obtain ⟨f, r4, _, _⟩ := opb_bool (F := n) Tryz.underlying4 (by kernel_rfl) H enc W n _ y4.1 y4.2 (Nat.le_refl _) h4
      obtain ⟨ab, r5, _, _⟩ := opb_anb n H enc W n _ y5.1 y5.2 (Nat.le_refl _) h5
      obtain ⟨w, r6, _, _⟩ := opb_bool (F := n) Tryz.underlying4 (by kernel_rfl) H enc W n _ y6.1 y6.2 (Nat.le_refl _) h6
      obtain ⟨l, r7, _, z7⟩ := hX H enc W n _ y7.1 y7.2 (by omega) h7
      simp only [Prod.mk.injEq] at e1
      obtain ⟨rfl, _⟩ := e1
      have r0 : RepL [] (old W) W [u1 k] [c0] := r0
      have r1 : RepL [] (old W) W [.str na] [c1] := r1
      have r2 : RepL [] (old W) W [u1 o] [c2] := r2
      have r3 : RepL [] (old W) W [.str v] [c3] := r3
      have r4 : RepL [] (old W) W [bool f] [c4] := r4
      have r5 : RepL [] (old W) W [int ab.1, int ab.2] [c5, c5'] := r5
      have r6 : RepL [] (old W) W [bool w] [c6] := r6
      have r7 : RepL [] (old W) W [.sl 3 (encXs l)] [c7] := r7
      refine ⟨.mk k na o v f ab.1 ab.2 w l, ?_, by rw [show Tryz.prog.cellsOf 53 = 9 by kernel_rfl]; rfl, ?_⟩
      · rw [encS]
        exact ((((((r0.append r1).append r2).append r3).append r4).append r5).append r6).append r7
      · simp only at z1 z3 z7
        rw [zS, Rows.uptoBulk]
        simp only [List.map_cons, List.map_nil, Rows.uptoBulkAll]
        omega
theorem opb_compound {F : Nat} (hS : OpB F Tryz.prog 47 (fun l : List Sm => [.sl 9 (encSs l)]) (fun l => zSs l + 1)) : OpB F Tryz.prog 49 encP zP := by
  intro H enc W fuel cs d ps hF h
  obtain ⟨xs, n, rfl, e1, hl, hn, hf⟩ := DataW.trod_struct Tryz.underlying49 h
  match xs, hn with
  | [y0, y1], _ =>
    have h0 := hf 0 _ rfl
    have h1 := hf 1 _ rfl
    rw [show Tryz.prog.cellsOf 49 = 2 by kernel_rfl] at hl
    match cs, hl with
    | [c0, c1], _ =>
      obtain ⟨na, r0, _, z0⟩ := opb_string (F := n) Tryz.underlying9 (by kernel_rfl) H enc W n _ y0.1 y0.2 (Nat.le_refl _) h0
      obtain ⟨l, r1, _, z1⟩ := hS H enc W n _ y1.1 y1.2 (by omega) h1
      simp only [Prod.mk.injEq] at e1
      obtain ⟨rfl, _⟩ := e1
      have r0 : RepL [] (old W) W [.str na] [c0] := r0
      have r1 : RepL [] (old W) W [.sl 9 (encSs l)] [c1] := r1
      refine ⟨.mk na l, ?_, by rw [show Tryz.prog.cellsOf 49 = 2 by kernel_rfl]; rfl, ?_⟩
      · rw [encP]
        exact r0.append r1
      · simp only at z0 z1
        rw [zP, Rows.uptoBulk]
        simp only [List.map_cons, List.map_nil, Rows.uptoBulkAll]
        omega
theorem opb_bytes (F : Nat) : OpB F Tryz.prog 40 (fun l : List Int => [.sl 1 (l.map fun c => [u1 c])]) (fun l => l.length + 1) := by
  have := opb_slice (F := F) Tryz.underlying40 (by kernel_rfl) (Nat.le_of_ble_eq_true (by kernel_rfl)) (opb_int (F := F) Tryz.underlying5 (by kernel_rfl))
  rw [show Tryz.prog.cellsOf 5 = 1 by kernel_rfl] at this
  simpa only [sum_one] using this
theorem opb_complex {F : Nat} (hP : OpB F Tryz.prog 39 (fun l : List Cp => [.sl 2 (encPs l)]) (fun l => zPs l + 1)) : OpB (F + 1) Tryz.prog 42 encX zX := by
  intro H enc W fuel cs d ps hF h
  obtain ⟨xs, n, rfl, e1, hl, hn, hf⟩ := DataW.trod_struct Tryz.underlying42 h
  match xs, hn with
  | [y0, y1, y2], _ =>
    have h0 := hf 0 _ rfl
    have h1 := hf 1 _ rfl
    have h2 := hf 2 _ rfl
    rw [show Tryz.prog.cellsOf 42 = 3 by kernel_rfl] at hl
    match cs, hl with
    | [c0, c1, c2], _ =>
      obtain ⟨k, r0, _, _⟩ := opb_int (F := n) Tryz.underlying5 (by kernel_rfl) H enc W n _ y0.1 y0.2 (Nat.le_refl _) h0
      obtain ⟨l, r1, _, z1⟩ := hP H enc W n _ y1.1 y1.2 (by omega) h1
      obtain ⟨m, r2, _, z2⟩ := opb_bytes n H enc W n _ y2.1 y2.2 (Nat.le_refl _) h2
      simp only [Prod.mk.injEq] at e1
      obtain ⟨rfl, _⟩ := e1
      have r0 : RepL [] (old W) W [u1 k] [c0] := r0
      have r1 : RepL [] (old W) W [.sl 2 (encPs l)] [c1] := r1
      have r2 : RepL [] (old W) W [.sl 1 (m.map fun c => [u1 c])] [c2] := r2
      refine ⟨.mk k l m, ?_, by rw [show Tryz.prog.cellsOf 42 = 3 by kernel_rfl]; rfl, ?_⟩
      · rw [encX]
        exact (r0.append r1).append r2
      · simp only at z1 z2
        rw [zX, Rows.uptoBulk]
        simp only [List.map_cons, List.map_nil, Rows.uptoBulkAll]
        omega
theorem opb_all : ∀ F, OpB F Tryz.prog 42 encX zX
  | 0 => fun H enc W fuel cs d ps hF h => by
    obtain rfl : fuel = 0 := by omega
    simp [DataW.trod] at h
  | F + 1 => by
    have a := opb_slice Tryz.underlying22 (by kernel_rfl) (Nat.le_of_ble_eq_true (by kernel_rfl)) (opb_all F)
    rw [show Tryz.prog.cellsOf 42 = 3 by kernel_rfl] at a
    simp only [sum_zXs, ← encXs_map] at a
    have b := opb_slice Tryz.underlying47 (by kernel_rfl) (Nat.le_of_ble_eq_true (by kernel_rfl)) (opb_simple a)
    rw [show Tryz.prog.cellsOf 53 = 9 by kernel_rfl] at b
    simp only [sum_zSs, ← encSs_map] at b
    have c := opb_slice Tryz.underlying39 (by kernel_rfl) (Nat.le_of_ble_eq_true (by kernel_rfl)) (opb_compound b)
    rw [show Tryz.prog.cellsOf 49 = 2 by kernel_rfl] at c
    simp only [sum_zPs, ← encPs_map] at c
    exact opb_complex c
/-- A list of selectors. -/
theorem list_of {H : Type} {enc : TypeId × Value → H} {W : World} {v : Value} {d : DataW H} {ps : List MemPlace} (hna : ∀ cs, v ≠ .agg cs) (hnt : ∀ cs, v ≠ .tuple cs) (h : DataW.Trod enc Tryz.prog W 0 (fun _ => true) true 22 v d ps) :
    ∃ l : List Cx, Rep [] (old W) W (.sl 3 (encXs l)) v ∧ zXs l ≤ Rows.uptoBulk d := by
  obtain ⟨fuel, h⟩ := h
  have a := opb_slice Tryz.underlying22 (by kernel_rfl) (Nat.le_of_ble_eq_true (by kernel_rfl)) (opb_all fuel)
  rw [show Tryz.prog.cellsOf 42 = 3 by kernel_rfl] at a
  simp only [sum_zXs, ← encXs_map] at a
  obtain ⟨l, h2, _, h4⟩ := a H enc W fuel _ d ps (Nat.le_refl _) h
  have e : v.cells.toList = [v] := by
    cases v <;> first | rfl | (exact absurd rfl (hna _)) | (exact absurd rfl (hnt _))
  rw [e] at h2
  simp only at h4
  exact ⟨l, by simpa using h2, by omega⟩
end Go.Proofs.YthblflmjingcfaaGreatDoor
end

section
namespace Go.Proofs.YthblflmjingcfaaGreatDoor
open Go Go.Aw Go.Sel Go.ChangeShapes Go.WideShapes Go.ChangeAt Go.RowKit
set_option maxRecDepth 100000
theorem opb_nat8 {F : Nat} {P : Program} {t : TypeId} (ht : P.underlying t = some (.int .u8)) (hc : P.cellsOf t = 1) : OpB F P t (fun n : Nat => [u1 (n : Int)]) (fun _ => 1) := by
  intro H enc W fuel cs d ps _ h
  obtain ⟨n, rfl, e, hn⟩ := DataW.trod_int ht h
  simp only [Prod.mk.injEq] at e
  obtain ⟨rfl, _⟩ := e
  have h0 : 0 ≤ n := by
    rw [Lit.wf, Bool.and_eq_true, decide_eq_true_eq] at hn
    exact Int.le_trans (show (0 : Int) ≤ IntKind.u8.min by decide) hn.1
  obtain ⟨m, rfl⟩ := Int.eq_ofNat_of_zero_le h0
  exact ⟨m, by simp, by simp [hc], by simp [Rows.uptoBulk]⟩
theorem opg_zXs {F : Nat} {P : Program} {t : TypeId} {n : Nat} (h : OpB F P t (fun l : List {x : Cx // gX x = true} => [.sl n (l.map fun x => encX x.1)]) (fun l => (l.map fun x => zX x.1).sum + 1)) :
    OpB F P t (fun l : {l : List Cx // gXs l = true} => [.sl n (encXs l.1)]) (fun l => zXs l.1 + 1) := by
  intro H enc W fuel cs d ps hF h0
  obtain ⟨l, h1, h2, h3⟩ := h H enc W fuel cs d ps hF h0
  have e1 : (l.map fun x => encX x.1) = encXs (l.map (·.1)) := by rw [encXs_map, List.map_map]; rfl
  have e2 : (l.map fun x => zX x.1).sum = zXs (l.map (·.1)) := by rw [← sum_zXs, List.map_map]; rfl
  refine ⟨⟨l.map (·.1), ?_⟩, ?_, h2, ?_⟩
  · rw [gXs_all, List.all_eq_true]
    intro x hx
    obtain ⟨y, _, rfl⟩ := List.mem_map.1 hx
    exact y.2
  · simp only at h1 ⊢; rw [← e1]; exact h1
  · simp only at h3 ⊢; rw [← e2]; exact h3
theorem opg_zSs {F : Nat} {P : Program} {t : TypeId} {n : Nat} (h : OpB F P t (fun l : List {x : Sm // gS x = true} => [.sl n (l.map fun x => encS x.1)]) (fun l => (l.map fun x => zS x.1).sum + 1)) :
    OpB F P t (fun l : {l : List Sm // gSs l = true} => [.sl n (encSs l.1)]) (fun l => zSs l.1 + 1) := by
  intro H enc W fuel cs d ps hF h0
  obtain ⟨l, h1, h2, h3⟩ := h H enc W fuel cs d ps hF h0
  have e1 : (l.map fun x => encS x.1) = encSs (l.map (·.1)) := by rw [encSs_map, List.map_map]; rfl
  have e2 : (l.map fun x => zS x.1).sum = zSs (l.map (·.1)) := by rw [← sum_zSs, List.map_map]; rfl
  refine ⟨⟨l.map (·.1), ?_⟩, ?_, h2, ?_⟩
  · rw [gSs_all, List.all_eq_true]
    intro x hx
    obtain ⟨y, _, rfl⟩ := List.mem_map.1 hx
    exact y.2
  · simp only at h1 ⊢; rw [← e1]; exact h1
  · simp only at h3 ⊢; rw [← e2]; exact h3
theorem opg_zPs {F : Nat} {P : Program} {t : TypeId} {n : Nat} (h : OpB F P t (fun l : List {x : Cp // gP x = true} => [.sl n (l.map fun x => encP x.1)]) (fun l => (l.map fun x => zP x.1).sum + 1)) :
    OpB F P t (fun l : {l : List Cp // gPs l = true} => [.sl n (encPs l.1)]) (fun l => zPs l.1 + 1) := by
  intro H enc W fuel cs d ps hF h0
  obtain ⟨l, h1, h2, h3⟩ := h H enc W fuel cs d ps hF h0
  have e1 : (l.map fun x => encP x.1) = encPs (l.map (·.1)) := by rw [encPs_map, List.map_map]; rfl
  have e2 : (l.map fun x => zP x.1).sum = zPs (l.map (·.1)) := by rw [← sum_zPs, List.map_map]; rfl
  refine ⟨⟨l.map (·.1), ?_⟩, ?_, h2, ?_⟩
  · rw [gPs_all, List.all_eq_true]
    intro x hx
    obtain ⟨y, _, rfl⟩ := List.mem_map.1 hx
    exact y.2
  · simp only at h1 ⊢; rw [← e1]; exact h1
  · simp only at h3 ⊢; rw [← e2]; exact h3
theorem opg_simple {F : Nat} (hX : OpB F Tryz.prog 22 (fun l : {l : List Cx // gXs l = true} => [.sl 3 (encXs l.1)]) (fun l => zXs l.1 + 1)) : OpB F Tryz.prog 53 (fun s : {s : Sm // gS s = true} => encS s.1) (fun s => zS s.1) := by
  intro H enc W fuel cs d ps hF h
  obtain ⟨xs, n, rfl, e1, hl, hn, hf⟩ := DataW.trod_struct Tryz.underlying53 h
  match xs, hn with
  | [y0, y1, y2, y3, y4, y5, y6, y7], _ =>
    have h0 := hf 0 _ rfl
    have h1 := hf 1 _ rfl
    have h2 := hf 2 _ rfl
    have h3 := hf 3 _ rfl
    have h4 := hf 4 _ rfl
    have h5 := hf 5 _ rfl
    have h6 := hf 6 _ rfl
    have h7 := hf 7 _ rfl
    rw [show Tryz.prog.cellsOf 53 = 9 by kernel_rfl] at hl
    match cs, hl with
    | [c0, c1, c2, c3, c4, c5, c5', c6, c7], _ =>
      obtain ⟨k, r0, _, _⟩ := opb_int (F := n) Tryz.underlying5 (by kernel_rfl) H enc W n _ y0.1 y0.2 (Nat.le_refl _) h0
      obtain ⟨na, r1, _, z1⟩ := opb_string (F := n) Tryz.underlying9 (by kernel_rfl) H enc W n _ y1.1 y1.2 (Nat.le_refl _) h1
      obtain ⟨o, r2, _, _⟩ := opb_nat8 (F := n) Tryz.underlying5 (by kernel_rfl) H enc W n _ y2.1 y2.2 (Nat.le_refl _) h2
      obtain ⟨v, r3, _, z3⟩ := opb_string (F := n) Tryz.underlying9 (by kernel_rfl) H enc W n _ y3.1 y3.2 (Nat.le_refl _) h3
      obtain ⟨f, r4, _, _⟩ := opb_bool (F := n) Tryz.underlying4 (by kernel_rfl) H enc W n _ y4.1 y4.2 (Nat.le_refl _) h4
      obtain ⟨ab, r5, _, _⟩ := opb_anb n H enc W n _ y5.1 y5.2 (Nat.le_refl _) h5
      obtain ⟨w, r6, _, _⟩ := opb_bool (F := n) Tryz.underlying4 (by kernel_rfl) H enc W n _ y6.1 y6.2 (Nat.le_refl _) h6
      obtain ⟨⟨l, gl⟩, r7, _, z7⟩ := hX H enc W n _ y7.1 y7.2 (by omega) h7
      simp only [Prod.mk.injEq] at e1
      obtain ⟨rfl, _⟩ := e1
      have r0 : RepL [] (old W) W [u1 k] [c0] := r0
      have r1 : RepL [] (old W) W [.str na] [c1] := r1
      have r2 : RepL [] (old W) W [u1 (o : Int)] [c2] := r2
      have r3 : RepL [] (old W) W [.str v] [c3] := r3
      have r4 : RepL [] (old W) W [bool f] [c4] := r4
      have r5 : RepL [] (old W) W [int ab.1, int ab.2] [c5, c5'] := r5
      have r6 : RepL [] (old W) W [bool w] [c6] := r6
      have r7 : RepL [] (old W) W [.sl 3 (encXs l)] [c7] := r7
      refine ⟨⟨.mk k na o v f ab.1 ab.2 w l, by rw [gS, gl, Bool.and_true]; exact decide_eq_true (Int.natCast_nonneg o)⟩, ?_, by rw [show Tryz.prog.cellsOf 53 = 9 by kernel_rfl]; rfl, ?_⟩
      · simp only [encS]
        exact ((((((r0.append r1).append r2).append r3).append r4).append r5).append r6).append r7
      · simp only at z1 z3 z7
        simp only [zS]
        rw [Rows.uptoBulk]
        simp only [List.map_cons, List.map_nil, Rows.uptoBulkAll]
        omega
theorem opg_compound {F : Nat} (hS : OpB F Tryz.prog 47 (fun l : {l : List Sm // gSs l = true} => [.sl 9 (encSs l.1)]) (fun l => zSs l.1 + 1)) : OpB F Tryz.prog 49 (fun s : {s : Cp // gP s = true} => encP s.1) (fun s => zP s.1) := by
  intro H enc W fuel cs d ps hF h
  obtain ⟨xs, n, rfl, e1, hl, hn, hf⟩ := DataW.trod_struct Tryz.underlying49 h
  match xs, hn with
  | [y0, y1], _ =>
    have h0 := hf 0 _ rfl
    have h1 := hf 1 _ rfl
    rw [show Tryz.prog.cellsOf 49 = 2 by kernel_rfl] at hl
    match cs, hl with
    | [c0, c1], _ =>
      obtain ⟨na, r0, _, z0⟩ := opb_string (F := n) Tryz.underlying9 (by kernel_rfl) H enc W n _ y0.1 y0.2 (Nat.le_refl _) h0
      obtain ⟨⟨l, gl⟩, r1, _, z1⟩ := hS H enc W n _ y1.1 y1.2 (by omega) h1
      simp only [Prod.mk.injEq] at e1
      obtain ⟨rfl, _⟩ := e1
      have r0 : RepL [] (old W) W [.str na] [c0] := r0
      have r1 : RepL [] (old W) W [.sl 9 (encSs l)] [c1] := r1
      refine ⟨⟨.mk na l, by rw [gP, gl]⟩, ?_, by rw [show Tryz.prog.cellsOf 49 = 2 by kernel_rfl]; rfl, ?_⟩
      · simp only [encP]
        exact r0.append r1
      · simp only at z0 z1
        simp only [zP]
        rw [Rows.uptoBulk]
        simp only [List.map_cons, List.map_nil, Rows.uptoBulkAll]
        omega
theorem opg_complex {F : Nat} (hP : OpB F Tryz.prog 39 (fun l : {l : List Cp // gPs l = true} => [.sl 2 (encPs l.1)]) (fun l => zPs l.1 + 1)) : OpB (F + 1) Tryz.prog 42 (fun s : {s : Cx // gX s = true} => encX s.1) (fun s => zX s.1) := by
  intro H enc W fuel cs d ps hF h
  obtain ⟨xs, n, rfl, e1, hl, hn, hf⟩ := DataW.trod_struct Tryz.underlying42 h
  match xs, hn with
  | [y0, y1, y2], _ =>
    have h0 := hf 0 _ rfl
    have h1 := hf 1 _ rfl
    have h2 := hf 2 _ rfl
    rw [show Tryz.prog.cellsOf 42 = 3 by kernel_rfl] at hl
    match cs, hl with
    | [c0, c1, c2], _ =>
      obtain ⟨k, r0, _, _⟩ := opb_int (F := n) Tryz.underlying5 (by kernel_rfl) H enc W n _ y0.1 y0.2 (Nat.le_refl _) h0
      obtain ⟨⟨l, gl⟩, r1, _, z1⟩ := hP H enc W n _ y1.1 y1.2 (by omega) h1
      obtain ⟨m, r2, _, z2⟩ := opb_bytes n H enc W n _ y2.1 y2.2 (Nat.le_refl _) h2
      simp only [Prod.mk.injEq] at e1
      obtain ⟨rfl, _⟩ := e1
      have r0 : RepL [] (old W) W [u1 k] [c0] := r0
      have r1 : RepL [] (old W) W [.sl 2 (encPs l)] [c1] := r1
      have r2 : RepL [] (old W) W [.sl 1 (m.map fun c => [u1 c])] [c2] := r2
      refine ⟨⟨.mk k l m, by rw [gX, gl]⟩, ?_, by rw [show Tryz.prog.cellsOf 42 = 3 by kernel_rfl]; rfl, ?_⟩
      · simp only [encX]
        exact (r0.append r1).append r2
      · simp only at z1 z2
        simp only [zX]
        rw [Rows.uptoBulk]
        simp only [List.map_cons, List.map_nil, Rows.uptoBulkAll]
        omega
theorem opg_all : ∀ F, OpB F Tryz.prog 42 (fun s : {s : Cx // gX s = true} => encX s.1) (fun s => zX s.1)
  | 0 => fun H enc W fuel cs d ps hF h => by
    obtain rfl : fuel = 0 := by omega
    simp [DataW.trod] at h
  | F + 1 => by
    have a := opb_slice Tryz.underlying22 (by kernel_rfl) (Nat.le_of_ble_eq_true (by kernel_rfl)) (opg_all F)
    rw [show Tryz.prog.cellsOf 42 = 3 by kernel_rfl] at a
    have a := opg_zXs a
    have b := opb_slice Tryz.underlying47 (by kernel_rfl) (Nat.le_of_ble_eq_true (by kernel_rfl)) (opg_simple a)
    rw [show Tryz.prog.cellsOf 53 = 9 by kernel_rfl] at b
    have b := opg_zSs b
    have c := opb_slice Tryz.underlying39 (by kernel_rfl) (Nat.le_of_ble_eq_true (by kernel_rfl)) (opg_compound b)
    rw [show Tryz.prog.cellsOf 49 = 2 by kernel_rfl] at c
    have c := opg_zPs c
    exact opg_complex c
/-- A list of selectors. -/
theorem listG_of {H : Type} {enc : TypeId × Value → H} {W : World} {v : Value} {d : DataW H} {ps : List MemPlace} (hna : ∀ cs, v ≠ .agg cs) (hnt : ∀ cs, v ≠ .tuple cs) (h : DataW.Trod enc Tryz.prog W 0 (fun _ => true) true 22 v d ps) :
    ∃ l : List Cx, Rep [] (old W) W (.sl 3 (encXs l)) v ∧ zXs l ≤ Rows.uptoBulk d ∧ gXs l = true := by
  obtain ⟨fuel, h⟩ := h
  have a := opb_slice Tryz.underlying22 (by kernel_rfl) (Nat.le_of_ble_eq_true (by kernel_rfl)) (opg_all fuel)
  rw [show Tryz.prog.cellsOf 42 = 3 by kernel_rfl] at a
  have a := opg_zXs a
  obtain ⟨⟨l, gl⟩, h2, _, h4⟩ := a H enc W fuel _ d ps (Nat.le_refl _) h
  have e : v.cells.toList = [v] := by
    cases v <;> first | rfl | (exact absurd rfl (hna _)) | (exact absurd rfl (hnt _))
  rw [e] at h2
  simp only at h4
  exact ⟨l, by simpa using h2, by omega, gl⟩
end Go.Proofs.YthblflmjingcfaaGreatDoor
end
