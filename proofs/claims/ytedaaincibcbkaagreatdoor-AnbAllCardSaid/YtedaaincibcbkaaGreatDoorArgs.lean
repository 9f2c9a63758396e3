/-
  A progression that comes in, told.
  No conditions.
-/
import Derived.Test.YtedaaincibcbkaaGreatDoorStart
import Derived.Test.YtedaaincibcbkaaGreatDoorSum
import Derived.ChangeSame
namespace Go.Proofs.YtedaaincibcbkaaGreatDoor
open Go Go.Aw Go.ChangeShapes Go.WideShapes Go.ChangeAt Go.RowKit
set_option maxRecDepth 100000
theorem anb_of {H : Type} {enc : TypeId × Value → H} {W : World} {base : Nat} {v : Value} {d : DataW H} {ps : List MemPlace} (hval : Value.okWide Tryz.prog W .any base 36 v) (h : DataW.Trod enc Tryz.prog W 0 (fun _ => true) true 36 v d ps) :
    ∃ A B : Int, Rep [] (old W) W (anbA A B) v := by
  obtain ⟨cs, rfl, hsz⟩ := okWide_struct Tryz.underlying36 hval
  obtain ⟨fuel, h⟩ := h
  obtain ⟨y0, y1, n, _, hl, h0, h1⟩ := trod_struct2 Tryz.underlying36 h
  obtain ⟨A, e0, _, _⟩ := DataW.trod_int Tryz.underlying2 h0
  obtain ⟨B, e1, _, _⟩ := DataW.trod_int Tryz.underlying2 h1
  have c2 : Tryz.prog.cellsOf 2 = 1 := by kernel_rfl
  have c36 : Tryz.prog.cellsOf 36 = 2 := by kernel_rfl
  rw [c36] at hl
  simp only [c2] at e0 e1
  refine ⟨A, B, ?_⟩
  have hcs : cs.toList = [.int .i64 A, .int .i64 B] := by
    have hl' : cs.toList.length = 2 := hl
    match hq : cs.toList, hl' with
    | [x, y], _ =>
      have q : (Value.agg cs).cells.toList = [x, y] := hq
      rw [q] at e0 e1
      simp at e0 e1
      rw [e0, e1]
  unfold anbA
  rw [Rep]
  refine ⟨[.int .i64 A, .int .i64 B], ?_, by simp⟩
  rw [← hcs]
end Go.Proofs.YtedaaincibcbkaaGreatDoor
