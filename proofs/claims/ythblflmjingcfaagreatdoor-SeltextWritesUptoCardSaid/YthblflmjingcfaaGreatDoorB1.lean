/-
  What a strings.Builder's own functions do with memory, where it lies anywhere in a block: copyCheck, String. A strings.Builder in the call's own memory: what its functions come to.
  No conditions.
-/
import Derived.Test.YthblflmjingcfaaGreatDoorProg
import Derived.Tactics
import Derived.Tactics2
import Derived.Defers
import Derived.Laws.Pointers
import Derived.RegionTactic
import Derived.RegionCalls
import Derived.ChangeAlike
import Derived.KernelRfl
import Derived.WalkKit
import Derived.Laws.Externs
import Derived.Lib.Builder
import Derived.Lib.UnsafeStr
import Derived.Test.YthblflmjingcfaaGreatDoorL4
set_option linter.unusedVariables false
set_option linter.unusedSimpArgs false
section
namespace Go.Proofs.YthblflmjingcfaaGreatDoor
set_option maxRecDepth 100000
set_option maxHeartbeats 4000000
open Go Go.RowKit

theorem bld_info : ∃ j, Tryz.prog.info? 59 = some j ∧ j.size = 2 :=
  Option.map_eq_some_iff.1 (show (Tryz.prog.info? 59).map (·.size) = some 2 by kernel_rfl)
/-- It has been used: nothing turns. -/
theorem cc_used (b o : Nat) (w : World) (h0 : w.cell? ⟨b, o, none⟩ = some (.pointer (some ⟨b, o, none⟩))) :
    Calls Tryz.prog 50 #[.pointer (some ⟨b, o, none⟩)] w fun e w' => e = .returned (.tuple #[]) ∧ w' = w := by
  obtain ⟨j, hj, _⟩ := bld_info
  go_enter Tryz.func50, Tryz.ntmps50
  go_wp2
  rw [Lib.run_neq_ptr_same w _ Tryz.underlying57 hj]
  go_wp2
  go_end0
  exact ⟨rfl, rfl⟩
/-- It is fresh: it keeps its own address. -/
theorem cc_fresh (T : TypeId) (n b o : Nat) (w : World) (h0 : w.cell? ⟨b, o, none⟩ = some (.pointer none)) (hsh : w.shape? b = some (T, n)) (ho : o < n) (hl : liesAt Tryz.prog Tryz.prog.depth T (n / Tryz.prog.cellsOf T) o 59 1 = true) (hfz : w.frozen? ⟨b, o, none⟩ = false) :
    Calls Tryz.prog 50 #[.pointer (some ⟨b, o, none⟩)] w fun e w' => e = .returned (.tuple #[]) ∧ w' = w.setCell ⟨b, o, none⟩ (.pointer (some ⟨b, o, none⟩)) := by
  obtain ⟨j, hj, hjs⟩ := bld_info
  go_enter Tryz.func50, Tryz.ntmps50
  go_wp2
  rw [Lib.run_to_unsafe w ⟨b, o, none⟩ Tryz.underlying57 Tryz.underlying127 hj (by rw [hjs]; decide) hsh ho]
  simp only [Result.andThen]
  rw [Oper.upon_value]
  go_wp2
  rw [run_callFunc_extern Tryz.func68 (by kernel_rfl) (by kernel_rfl) (by kernel_rfl) (e := Extern.AbiNoEscape.same) (by kernel_rfl)]
  rw [Lib.run_noEscape]
  simp only [Result.andThen]
  rw [Oper.upon_value]
  go_wp2
  rw [Lib.run_from_unsafe w ⟨b, o, none⟩ Tryz.underlying127 Tryz.underlying57 hj hsh hl]
  simp only [Result.andThen]
  rw [Oper.upon_value]
  go_wp2
  go_end0
  exact ⟨rfl, rfl⟩
/-- The text of what it holds, where that is something. -/
theorem str_some (b o g cap m : Nat) (l : List UInt8) (w : World) (h0 : l ≠ []) (hc : w.cell? ⟨b, o + 1, none⟩ = some (.slice (some ⟨g, 0, none⟩) l.length cap)) (hcap : l.length ≤ cap) (hcm : cap ≤ maxLen) (hsh : w.shape? g = some (5, m)) (hm : l.length ≤ m)
    (hcell : ∀ j x, l[j]? = some x → w.cell? ⟨g, j, none⟩ = some (.int .u8 x.toNat)) :
    Calls Tryz.prog 21 #[.pointer (some ⟨b, o, none⟩)] w fun e w' => e = .returned (.string ⟨l.toArray⟩) ∧ w' = w.drew.freeze ⟨g, 0, none⟩ l.length := by
  have hl0 : l.length ≠ 0 := by simpa using h0
  have c1 : w.drew.cell? ⟨b, o + 1, none⟩ = some (.slice (some ⟨g, 0, none⟩) l.length cap) := hc
  have hSD : (Builtin.unsafeSliceData_ #[40] 88 #[.slice (some ⟨g, 0, none⟩) l.length cap]).run Tryz.prog w.drew = .ok (.pointer (some ⟨g, 0, none⟩)) w.drew :=
    Lib.run_unsafeSliceData_row _ _ _ _ _ _ (by omega)
  have hUS : (Builtin.unsafeString_ #[88, 3] 9 #[.pointer (some ⟨g, 0, none⟩), .int .i64 l.length]).run Tryz.prog w.drew = .ok (.string ⟨l.toArray⟩) (w.drew.freeze ⟨g, 0, none⟩ l.length) := by
    refine Lib.run_unsafeString_row w.drew 88 3 9 5 Tryz.underlying88 (by kernel_rfl) g m hsh l h0 hm (by unfold maxLen at hcm; omega) ?_
    intro j x hx
    have := hcell j x hx
    simp only [Addr.add]
    split
    · rename_i q; subst q; exact this
    · simpa using this
  go_enter Tryz.func21, Tryz.ntmps21
  go_wp2
  go_region
  all_goals (go_wp2; go_ret; exact ⟨rfl, rfl⟩)
/-- Where it holds nothing, and never did. -/
theorem str_nil (b o : Nat) (w : World) (hc : w.cell? ⟨b, o + 1, none⟩ = some (.slice none 0 0)) :
    Calls Tryz.prog 21 #[.pointer (some ⟨b, o, none⟩)] w fun e w' => e = .returned (.string ⟨#[]⟩) ∧ w' = w.drew := by
  have c1 : w.drew.cell? ⟨b, o + 1, none⟩ = some (.slice none 0 0) := hc
  have hUS := fun (W : World) (q : Option Addr) => Lib.run_unsafeString_none (P := Tryz.prog) W 88 3 9 q
  have hSD : (Builtin.unsafeSliceData_ #[40] 88 #[.slice none 0 0]).run Tryz.prog w.drew = .ok (.pointer none) w.drew := rfl
  go_enter Tryz.func21, Tryz.ntmps21
  go_wp2
  go_region
  all_goals (go_wp2; go_ret; exact ⟨rfl, rfl⟩)
theorem lies_writer (k : Nat) : liesAt Tryz.prog Tryz.prog.depth 61 (k + 1) 0 59 1 = true := by kernel_rfl
end Go.Proofs.YthblflmjingcfaaGreatDoor
end

section
namespace Go.Aw
open Go Go.RowKit
variable [Laid]
omit [Laid] in
theorem heap_frozen (w : World) (g k b : Nat) (hb : b ≠ g) : (w.freeze ⟨g, 0, none⟩ k).heap[b]? = w.heap[b]? := by
  unfold World.freeze
  split
  · rfl
  · simp only [Array.getElem?_modify]
    rw [if_neg (Ne.symm hb)]
omit [Laid] in
theorem size_frozen (w : World) (g k : Nat) : (w.freeze ⟨g, 0, none⟩ k).heap.size = w.heap.size := by
  unfold World.freeze
  split
  · rfl
  · simp
omit [Laid] in
theorem cell_frozen (w : World) (g k b o : Nat) : (w.freeze ⟨g, 0, none⟩ k).cell? ⟨b, o, none⟩ = w.cell? ⟨b, o, none⟩ := by
  by_cases hb : b = g
  · subst hb
    unfold World.freeze
    split
    · rfl
    · unfold World.cell?
      simp only [Array.getElem?_modify, if_pos rfl]
      cases w.heap[b]? with
      | none => rfl
      | some x => cases x <;> rfl
  · exact World.cell?_of_block (w := w) (heap_frozen w g k b hb)
omit [Laid] in
theorem shape_frozen (w : World) (g k b : Nat) : (w.freeze ⟨g, 0, none⟩ k).shape? b = w.shape? b := by
  by_cases hb : b = g
  · subst hb
    unfold World.freeze
    split
    · rfl
    · unfold World.shape?
      simp only [Array.getElem?_modify, if_pos rfl]
      cases w.heap[b]? with
      | none => rfl
      | some x => cases x <;> rfl
  · unfold World.shape?
    rw [heap_frozen w g k b hb]
/-- The slice's cells are frozen; it is let go. -/
theorem HOK.frozen {base : Nat} {ι : List Ix} {S : Stab} {w : World} {h : Heap} (hh : HOK base ι S w h) {id e sz n g cap : Nat} (q : h[id]? = some (.tok e sz n)) (hv : ι[id]? = some (.tok n (.slice (some ⟨g, 0, none⟩) n cap))) (hc : cap ≠ 0) (hg : base ≤ g) (k : Nat) :
    Evo ι.length base ι S w ι S (w.freeze ⟨g, 0, none⟩ k) ∧ HOK base ι S (w.freeze ⟨g, 0, none⟩ k) (h.set id .dead) := by
  have hE : Evo ι.length base ι S w ι S (w.freeze ⟨g, 0, none⟩ k) := ⟨fun _ _ => IxLe.refl _, fun _ _ h => h, fun _ _ h => .inl h, fun b o _ => cell_frozen w g k b o, fun b x hx => by rw [shape_frozen]; exact hx, Lib.below_freeze (Below.refl base w) (p := ⟨g, 0, none⟩) hg k⟩
  have hlt : id < h.length := (List.getElem?_eq_some_iff.1 q).1
  have at' : (h.set id Ent.dead)[id]? = some .dead := List.getElem?_set_self hlt
  refine ⟨hE, hh.turn hE (by simp [hh.len]) id (fun i hi ha => ?_) (fun y ey => by rw [at'] at ey; cases ey) (fun t s m ey => by rw [at'] at ey; cases ey) (fun j c hj ai => by rw [at'] at ai; exact ai.elim) (fun b o s => by rw [size_frozen]; exact hh.stb b o s) (by rw [size_frozen]; exact hh.bas)⟩
  rw [List.getElem?_set_ne (Ne.symm hi)] at ha ⊢
  refine ⟨rfl, rfl, fun c hc' _ => ⟨heap_frozen w g k c fun z => ?_, fun _ z => z⟩⟩
  subst z
  exact hi (hh.inj i id c ha (by rw [q]; exact trivial) hc' (by rw [hv]; exact ⟨_, _, _, rfl, rfl, hc⟩))
/-- Bytes in a row. -/
def rowB1 (x : List AV) : Option UInt8 := match x with
  | [.v (.int .u8 (.ofNat m))] => (match Nat.ble m 255 with | true => some (UInt8.ofNat m) | false => none)
  | _ => none
noncomputable def rowsB (r : List (List AV)) : Option (List UInt8) := List.rec (motive := fun _ => Option (List UInt8)) (some []) (fun x _ ih => match rowB1 x with
  | some b => (match ih with | some l => some (b :: l) | none => none)
  | none => none) r
omit [Laid] in
theorem rowB1_ok {x : List AV} {b : UInt8} (e : rowB1 x = some b) : x = [byteA b] := by
  unfold rowB1 at e
  split at e
  · rename_i m
    split at e
    · rename_i hb
      have hb := Nat.le_of_ble_eq_true hb
      cases e
      rw [byteA]
      simp
      omega
    · cases e
  · cases e
omit [Laid] in
theorem rowsB_ok : ∀ {r : List (List AV)} {l : List UInt8}, rowsB r = some l → r = l.map fun b => [byteA b]
  | [], l, e => by cases e; rfl
  | x :: r, l, e => by
    have e1 : rowsB (x :: r) = (match rowB1 x with
      | some b => (match rowsB r with | some l => some (b :: l) | none => none)
      | none => none) := rfl
    rw [e1] at e
    split at e
    · rename_i b hb
      split at e
      · rename_i k er
        cases e
        rw [rowsB_ok er, rowB1_ok hb, List.map_cons]
      · cases e
    · cases e
end Go.Aw
namespace Go.Proofs.YthblflmjingcfaaGreatDoor
open Go Go.Aw Go.RowKit
variable [Laid]
/-- It has been used. -/
theorem acc_used {id o : Nat} {h : Heap} {x : Blk} (e : h[id]? = some (.blk x)) (hc : x.cells[o]? = some (.op id o)) : ACall Tryz.prog 50 [.op id o] h fun r hh => r = .tup [] ∧ hh = h := by
  intro base ι S w vs h1 h2
  match vs, h1 with
  | [], h1 => simp at h1
  | v :: u :: vs, h1 => simp at h1
  | [v], h1 =>
    simp only [RepL_cons, RepL_nil, and_true] at h1
    rw [Rep] at h1
    obtain ⟨b, hb, rfl⟩ := h1
    obtain ⟨b', arr, fz, k1, k2, k3, k4, k5, k6, _⟩ := h2.live id x e
    rw [hb] at k1; cases k1
    obtain ⟨u, hu, ru⟩ := k6 o _ hc
    rw [Rep] at ru
    obtain ⟨b2, hb2, rfl⟩ := ru
    rw [hb] at hb2; cases hb2
    refine (cc_used b o w (by rw [cell_at k3]; exact hu)).mono ?_
    rintro e w' ⟨rfl, rfl⟩
    exact ⟨_, ι, S, .tup [], h, rfl, Evo.refl _ _ _ _ _, by rw [Rep]; exact ⟨[], rfl, by simp⟩, h2, Nat.le_refl _, rfl, rfl⟩
/-- It is fresh, and lies in a writer. -/
theorem acc_fresh {id : Nat} {h : Heap} {x : Blk} (e : h[id]? = some (.blk x)) (hw : x.wr = true) (ht : x.ty = 61) (hc : x.cells[0]? = some (.v (.pointer none))) (hl : 2 ≤ x.cells.length) : ACall Tryz.prog 50 [.op id 0] h fun r hh => r = .tup [] ∧ hh = h.set id (.blk { x with cells := x.cells.set 0 (.op id 0) }) := by
  intro base ι S w vs h1 h2
  match vs, h1 with
  | [], h1 => simp at h1
  | v :: u :: vs, h1 => simp at h1
  | [v], h1 =>
    simp only [RepL_cons, RepL_nil, and_true] at h1
    rw [Rep] at h1
    obtain ⟨b, hb, rfl⟩ := h1
    obtain ⟨b', arr, fz, k1, k2, k3, k4, k5, k6, _⟩ := h2.live id x e
    rw [hb] at k1; cases k1
    obtain ⟨u, hu, ru⟩ := k6 0 _ hc
    rw [Rep_v] at ru
    subst ru
    have hsh : w.shape? b = some (61, arr.size) := by unfold World.shape?; rw [k3, ht]
    have hcl : Tryz.prog.cellsOf 61 = 2 := by kernel_rfl
    have hlies : liesAt Tryz.prog Tryz.prog.depth 61 (arr.size / Tryz.prog.cellsOf 61) 0 59 1 = true := by
      rw [hcl]
      obtain ⟨k, hk⟩ : ∃ k, arr.size / 2 = k + 1 := ⟨arr.size / 2 - 1, by omega⟩
      rw [hk]
      exact lies_writer k
    refine (cc_fresh 61 arr.size b 0 w (by rw [cell_at k3]; exact hu) hsh (by omega) hlies (by rw [frozen_at k3]; have := k4 0 (by omega); simp; omega)).mono ?_
    rintro e' w' ⟨rfl, rfl⟩
    obtain ⟨hE, hH⟩ := h2.set e hw hb (o := 0) (by omega) (c := .op id 0) (v := .pointer (some ⟨b, 0, none⟩)) (by rw [Rep]; exact ⟨b, hb, rfl⟩)
    exact ⟨_, ι, S, .tup [], _, rfl, hE.mono (by rw [h2.len]; exact Nat.le_refl _) (Nat.le_refl _), by rw [Rep]; exact ⟨[], rfl, by simp⟩, hH, by simp, rfl, rfl⟩
/-- Its text; what it held is let go. -/
theorem acc_string {id o tid n : Nat} {h : Heap} {x : Blk} {rows : List (List AV)} {l : List UInt8} (e : h[id]? = some (.blk x)) (hc : x.cells[o + 1]? = some (.sb tid 1 rows)) (ht : h[tid]? = some (.tok 5 1 n)) (hn : n = rows.length) (hr : rows = l.map fun b => [byteA b]) (h0 : l ≠ []) :
    ACall Tryz.prog 21 [.op id o] h fun r hh => r = .str l ∧ hh = h.set tid .dead := by
  intro base ι S w vs h1 h2
  match vs, h1 with
  | [], h1 => simp at h1
  | v :: u :: vs, h1 => simp at h1
  | [v], h1 =>
    simp only [RepL_cons, RepL_nil, and_true] at h1
    rw [Rep] at h1
    obtain ⟨b, hb, rfl⟩ := h1
    obtain ⟨b', arr, fz, k1, k2, k3, k4, k5, k6, _⟩ := h2.live id x e
    rw [hb] at k1; cases k1
    obtain ⟨u, hu, ru⟩ := k6 (o + 1) _ hc
    rw [Rep] at ru
    obtain ⟨⟨a, cap, rfl, hcap, hcm, hz⟩, n', v', t1, t2, t3⟩ := ru
    have hlr : rows.length = l.length := by rw [hr, List.length_map]
    have hrn : rows ≠ [] := fun z => h0 (List.length_eq_zero_iff.1 (by rw [← hlr, z]; rfl))
    obtain ⟨v2, s1, a2, cap2, ev2, c1, c2, c3⟩ := h2.tok tid _ _ _ ht
    rw [t1] at s1
    simp only [Option.some.injEq, Ix.tok.injEq] at s1
    obtain ⟨rfl, rfl⟩ := s1
    have hev := t3 hn
    rw [← hev] at ev2
    simp only [Value.slice.injEq] at ev2
    obtain ⟨rfl, _, rfl⟩ := ev2
    have hlp : 0 < l.length := by rw [List.length_pos_iff]; exact h0
    have hc0 : cap ≠ 0 := by omega
    rcases c3 with c3 | ⟨g, arr2, fz2, rfl, d1, d2, d3, d4, d5⟩
    · exact absurd c3 hc0
    rcases hz with hz | ⟨b3, off3, e3, hR⟩
    · exact absurd hz hrn
    simp only [Option.some.injEq, Addr.mk.injEq, and_true] at e3
    obtain ⟨rfl, rfl⟩ := e3
    rw [hlr] at hu hev hcap
    have hst := str_some b o g cap arr2.size l w h0 (by rw [cell_at k3]; exact hu) hcap c2 (by unfold World.shape?; rw [d2]) (by omega) (fun j y hy => by
      have hj : rows[j]? = some [byteA y] := by rw [hr, List.getElem?_map, hy]; rfl
      obtain ⟨_, hC⟩ := hR.get j _ hj
      obtain ⟨z, z1, _, z3⟩ := hC.get 0 (byteA y) rfl
      rw [byteA, Rep_v] at z3
      subst z3
      simpa using z1)
    refine hst.mono ?_
    rintro e' w' ⟨rfl, rfl⟩
    obtain ⟨hE1, hH1⟩ := h2.drew
    obtain ⟨hE2, hH2⟩ := hH1.frozen (id := tid) (g := g) (cap := cap) ht (by rw [t1, ← hev, hn, hlr]) hc0 d1 l.length
    exact ⟨_, ι, S, .str l, _, rfl, (hE1.trans hE2).mono (by rw [h2.len]; exact Nat.le_refl _) (Nat.le_refl _), by rw [Rep]; exact ⟨rfl, by omega⟩, hH2, by simp, rfl, rfl⟩
/-- Nothing has been written. -/
theorem acc_string0 {id o : Nat} {h : Heap} {x : Blk} (e : h[id]? = some (.blk x)) (hc : x.cells[o + 1]? = some (.v (.slice none 0 0))) : ACall Tryz.prog 21 [.op id o] h fun r hh => r = .str [] ∧ hh = h := by
  intro base ι S w vs h1 h2
  match vs, h1 with
  | [], h1 => simp at h1
  | v :: u :: vs, h1 => simp at h1
  | [v], h1 =>
    simp only [RepL_cons, RepL_nil, and_true] at h1
    rw [Rep] at h1
    obtain ⟨b, hb, rfl⟩ := h1
    obtain ⟨b', arr, fz, k1, k2, k3, k4, k5, k6, _⟩ := h2.live id x e
    rw [hb] at k1; cases k1
    obtain ⟨u, hu, ru⟩ := k6 (o + 1) _ hc
    rw [Rep_v] at ru
    subst ru
    refine (str_nil b o w (by rw [cell_at k3]; exact hu)).mono ?_
    rintro e' w' ⟨rfl, rfl⟩
    obtain ⟨hE1, hH1⟩ := h2.drew
    exact ⟨_, ι, S, .str [], _, rfl, hE1.mono (by rw [h2.len]; exact Nat.le_refl _) (Nat.le_refl _), by rw [Rep]; exact ⟨rfl, by simp⟩, hH1, Nat.le_refl _, rfl, rfl⟩
end Go.Proofs.YthblflmjingcfaaGreatDoor
end
