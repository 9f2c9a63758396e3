/-
  Functions that are known: by contracts.
  No conditions.
-/
import Derived.Test.YtpggiljgcckmoaaGreatDoorClean
namespace Go.Proofs.YtpggiljgcckmoaaGreatDoor
open Go Go.Aw Go.RowKit
set_option maxRecDepth 1000000
/-- A call that leaves what was there alone, and hands back a flat value. -/
theorem acall_below [Laid] {P : Program} {f : FuncId} {args : List AV} {h : Heap} {r : AV} {v : Value} (fl : Flat r) (hr : ∀ w, Rep [] (fun _ _ => False) w r v)
    (c : ∀ ι S w vs, RepL ι S w args vs → Calls P f vs.toArray w fun e w' => e = .returned v ∧ Below w.heap.size w w') : ACall P f args h fun r' hh => r' = r ∧ hh = h := by
  intro base ι S w vs h1 h2
  refine (c ι S w vs h1).mono ?_
  rintro e w' ⟨rfl, hB⟩
  have hE : Evo ι.length w.heap.size ι S w ι S w' := ⟨fun _ _ => IxLe.refl _, fun _ _ q => q, fun _ _ q => .inl q, fun b o q => hB.cell (h2.stb b o q), fun b x hx => by
    unfold World.shape? at hx ⊢
    have hb : b < w.heap.size := by
      rcases Nat.lt_or_ge b w.heap.size with k | k
      · exact k
      · rw [Array.getElem?_eq_none k] at hx; cases hx
    rw [hB.block b hb]; exact hx, hB⟩
  exact ⟨v, ι, S, r, h, rfl, hE.mono (by rw [h2.len]; exact Nat.le_refl _) h2.bas, Rep.flat r v fl (hr w'), h2.over hE (fun b o q => Nat.lt_of_lt_of_le (h2.stb b o q) hB.size), Nat.le_refl _, rfl, rfl⟩
theorem acall175 (l m : List UInt8) (hl : l.length ≤ 100000) (hm : m.length ≤ 100000) (al : asciiB l = true) (am : asciiB m = true) (h : Heap) : ACall Tryz.prog 161 [.str l, .str m] h fun r hh => r = int (Lib.indexAny l m) ∧ hh = h := by
  refine acall_below (v := .int .i64 (Lib.indexAny l m)) (by simp) (fun w => by simp) ?_
  intro ι S w vs h1
  match vs, h1 with
  | [], h1 => simp at h1
  | [v], h1 => simp at h1
  | v :: u :: x :: vs, h1 => simp at h1
  | [v, u], h1 =>
    simp only [RepL_cons, RepL_nil, and_true, Rep_str] at h1
    obtain ⟨⟨rfl, _⟩, rfl, _⟩ := h1
    have asc : ∀ l : List UInt8, asciiB l = true → ∀ (j : Nat) b, l[j]? = some b → b.toNat < 128 := by
      intro l al j b hb
      unfold asciiB at al
      rw [allE_eq] at al
      have := List.all_eq_true.1 al b (List.mem_of_getElem? hb)
      have := Nat.le_of_ble_eq_true this
      omega
    have := indexAny_laid ⟨l.toArray⟩ ⟨m.toArray⟩ w (by simp [ByteArray.size]; omega) (by simp [ByteArray.size]; omega) (fun j b hb => asc l al j b (by simpa using hb)) (fun j b hb => asc m am j b (by simpa using hb))
    simpa using this

noncomputable def known2 : CallF := fun f args _ => match Nat.beq f 164 with
  | true => (match args with | [.str l, .v (.int .u8 c)] => (match byteI c with | true => some (int (idxF c.toNat l 0), none) | false => none) | _ => none)
  | false => match Nat.beq f 66 with
    | true => (match args with | [.str l] => (match Nat.ble (lenF l) 4000 with | true => (match allE okB l with | true => some (.tup [.str l, int 0], none) | false => none) | false => some (.tup [.str [], int 28], none)) | _ => none)
    | false => match Nat.beq f 161 with
      | true => (match args with | [.str l, .str m] => (match asciiB l, asciiB m, Nat.ble (lenF l) 100000, Nat.ble (lenF m) 100000 with | true, true, true, true => some (int (Lib.indexAny l m), none) | _, _, _, _ => none) | _ => none)
      | false => none
theorem known2_ok : CallOK Tryz.prog known2 := by
  intro f args h v oh e
  unfold known2 at e
  split at e
  · rename_i hf
    have hf := Nat.eq_of_beq_eq_true hf
    subst hf
    split at e
    · split at e
      · rename_i hc
        cases e
        right
        exact ext_indexByte Tryz.func164 (by kernel_rfl) (by kernel_rfl) (by kernel_rfl) (by kernel_rfl) hc h
      · cases e
    · cases e
  · split at e
    · rename_i hf
      have hf := Nat.eq_of_beq_eq_true hf
      subst hf
      left
      refine ⟨by kernel_rfl, ?_⟩
      split at e
      · rename_i l
        split at e
        · rename_i hl
          have hl := Nat.le_of_ble_eq_true hl
          rw [lenF_eq] at hl
          split at e
          · rename_i ho
            rw [allE_eq] at ho
            cases e
            exact (con59 l (fun x hx => List.all_eq_true.1 ho x hx) hl).call ⟨rfl, rfl⟩
          · cases e
        · rename_i hl
          cases e
          have hl : ¬ lenF l ≤ 4000 := fun q => by rw [Nat.ble_eq_true_of_le q] at hl; cases hl
          rw [lenF_eq] at hl
          exact (con59_long l (by omega)).call ⟨rfl, rfl⟩
      · cases e
    · split at e
      · rename_i hf
        have hf := Nat.eq_of_beq_eq_true hf
        subst hf
        left
        refine ⟨by kernel_rfl, ?_⟩
        split at e
        · split at e
          · rename_i a1 a2 a3 a4
            cases e
            have a3 := Nat.le_of_ble_eq_true a3
            have a4 := Nat.le_of_ble_eq_true a4
            rw [lenF_eq] at a3 a4
            exact acall175 _ _ a3 a4 a1 a2 h
          · cases e
        · cases e
      · cases e
end Go.Proofs.YtpggiljgcckmoaaGreatDoor
