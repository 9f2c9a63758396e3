/-
  Operations that turn memory, at known values; each operation of the model as one of these.
  No conditions: definitions and lemmas over any program.
-/
import Derived.Test.YtpggiljgcckmoaaGreatDoorRop
namespace Go.Aw
open Go Go.RowKit
variable [Laid]

noncomputable def overE (cs : List AV) : List AV → List AV := List.rec (motive := fun _ => List AV → List AV) (fun l => l) (fun c _ ih l => List.casesOn (motive := fun _ => List AV) l [] (fun _ t => c :: ih t)) cs
noncomputable def splE (o : Nat) (cs : List AV) : List AV → List AV := Nat.rec (motive := fun _ => List AV → List AV) (fun l => overE cs l) (fun _ ih l => List.casesOn (motive := fun _ => List AV) l [] (fun x t => x :: ih t)) o
omit [Laid] in
theorem splE_eq : ∀ (cs : List AV) (o : Nat) (l : List AV), splE o cs l = setAll l o cs := by
  have nil : ∀ o (l : List AV), splE o [] l = l := by
    intro o
    induction o with
    | zero => intro l; rfl
    | succ o ih => intro l; cases l with | nil => rfl | cons x l => show x :: splE o [] l = _; rw [ih]
  have step : ∀ (c : AV) (cs : List AV) (o : Nat) (l : List AV), splE o (c :: cs) l = splE (o + 1) cs (l.set o c) := by
    intro c cs o
    induction o with
    | zero => intro l; cases l <;> rfl
    | succ o ih => intro l; cases l with | nil => rfl | cons x l => show x :: splE o (c :: cs) l = _; rw [ih]; rfl
  intro cs
  induction cs with
  | nil => intro o l; rw [nil]; rfl
  | cons c cs ih => intro o l; rw [step, ih]; rfl
noncomputable def eStore (sz : Nat) (x v : AV) (h : Heap) : Option Heap :=
  match x with
  | .op id o => (match getE h id with
    | some (.blk b) => (match b.wr, hasN (o + sz) b.cells, Nat.beq (lenF (vcells v)) sz, allE scal (vcells v) with
      | true, true, true, true => some (setE h id (.blk { b with cells := splE o (vcells v) b.cells }))
      | _, _, _, _ => none)
    | _ => none)
  | _ => none
noncomputable def eNew (t : TypeId) (v : AV) (h : Heap) : Option (AV × Heap) :=
  match allE scal (vcells v) with
  | true => some (.op (lenF h) 0, h ++ [.blk ⟨t, vcells v, true⟩])
  | false => none
noncomputable def bfillE : List AV → List (Nat × Nat × AV) → Option (List AV)
  | cells, [] => some cells
  | cells, (o, n, x) :: r => (match Nat.beq (lenF (vcells x)) n, hasN (o + n) cells, allE scal (vcells x) with
    | true, true, true => bfillE (splE o (vcells x) cells) r
    | _, _, _ => none)
noncomputable def eBuild (zero : AV) (ps : List (Nat × Nat × AV)) : Option AV := match bfillE (vcells zero) ps with | some cs => some (.agg cs) | none => none
noncomputable def eMkSl (t len sz : Nat) (zero : AV) (ps : List (Nat × Nat × AV)) (h : Heap) : Option (AV × Heap) :=
  match bfillE (rep0 len (vcells zero)) ps with
  | some cs => (match len with
    | 0 => some (.emp, h)
    | len + 1 => some (.own (lenF h) 0 (len + 1) sz, h ++ [.blk ⟨t, cs, true⟩]))
  | none => none
noncomputable def eMkSlP (len sz : Nat) (zero : AV) (ps : List (Nat × Nat × AV)) : Option AV :=
  match bfillE (rep0 len (vcells zero)) ps with
  | some cs => some (.sl sz (chunks sz len cs))
  | none => none
noncomputable def eMake (e sz bytes : Nat) (zero len cap : AV) (h : Heap) : Option (AV × Heap) :=
  match len, cap with
  | .v (.int _ (.ofNat l)), .v (.int _ (.ofNat c)) => (match Nat.ble l c, Nat.ble (bytes * c) 281474976710656, Nat.ble c 9223372036854775807 with
    | true, true, true => some (.own (lenF h) 0 l sz, h ++ [.blk ⟨e, rep0 c (vcells zero), true⟩])
    | _, _, _ => none)
  | _, _ => none
noncomputable def eToBytes (e : Nat) (x : AV) (h : Heap) : Option (AV × Heap) :=
  match x with
  | .str l => some (.own (lenF h) 0 (lenF l) 1, h ++ [.blk ⟨e, l.map byteA, true⟩])
  | _ => none
noncomputable def srcE (h : Heap) (sz : Nat) (x : AV) : Option (List (List AV)) :=
  match unsb x with
  | .emp => some []
  | .sl sz' rows => (match Nat.beq sz' sz with | true => some rows | false => none)
  | .own id off len sz' => (match getE h id with
    | some (.blk b) => (match Nat.beq sz' sz, hasN (off + len * sz) b.cells with | true, true => some (chunks sz len (dropE off b.cells)) | _, _ => none)
    | _ => none)
  | _ => none
noncomputable def eOfBytes (x : AV) (h : Heap) : Option AV :=
  match srcE h 1 x with
  | some p => (match unB p.flatten with | some l => some (.str l) | none => none)
  | none => none
noncomputable def eLenS (x : AV) : Option AV := match x with | .str l => some (int (Int.ofNat (lenF l))) | _ => none
noncomputable def eLen (x : AV) : Option AV :=
  match unsb x with
  | .sl _ rows => some (int (Int.ofNat (lenF rows)))
  | .own _ _ len _ => some (int (Int.ofNat len))
  | .emp => some (int (Int.ofNat 0))
  | _ => none
def eMin (x y : AV) : Option AV :=
  match x, y with
  | .v (.int k a), .v (.int k' b) => (match kEq k k' with | true => some (.v (.int k (match ltI b a with | true => b | false => a))) | false => none)
  | _, _ => none
def eMax (x y : AV) : Option AV :=
  match x, y with
  | .v (.int k a), .v (.int k' b) => (match kEq k k' with | true => some (.v (.int k (match ltI a b with | true => b | false => a))) | false => none)
  | _, _ => none
noncomputable def rowE (sz : Nat) (r : List AV) : Bool := match Nat.beq (lenF r) sz, allE scal r with | true, true => true | _, _ => false
def roomE (bytes n : Nat) : Bool := match Nat.ble n maxLen, Nat.ble (n * bytes) 140737488355328 with | true, true => true | _, _ => false
noncomputable def eAppTo (own : Bool) (e sz bytes : Nat) (x : AV) (src : Option (List (List AV))) (h : Heap) : Option (AV × Heap) :=
  match src with
  | none => none
  | some rows => (match allE (rowE sz) rows with
    | false => none
    | true => (match nle x with
      | .emp => (match roomE bytes (lenF rows) with
        | false => none
        | true => (match own with
          | false => some (.sb (lenF h) sz rows, h ++ [.tok e sz (lenF rows)])
          | true => (match rows with
            | [] => none
            | r :: rs => some (.own (lenF h) 0 (lenF (r :: rs)) sz, h ++ [.blk ⟨e, (r :: rs).flatten, true⟩]))))
      | .sb id sz' base => (match getE h id with
        | some (.tok e' sz'' k) => (match Nat.beq sz' sz, Nat.beq sz'' sz, Nat.beq e' e, Nat.beq k (lenF base), roomE bytes (k + lenF rows) with
          | true, true, true, true, true => some (.sb id sz (base ++ rows), setE h id (.tok e sz (k + lenF rows)))
          | _, _, _, _, _ => none)
        | _ => none)
      | .own id off len sz' => (match getE h id with
        | some (.blk b) => (match Nat.beq off 0, Nat.beq sz' sz, b.wr, Nat.beq b.ty e, hasN (len * sz) b.cells, Nat.ble 1 (len + lenF rows), roomE bytes (len + lenF rows) with
          | true, true, true, true, true, true, true => some (.own (lenF h) 0 (len + lenF rows) sz, setE h id .dead ++ [.blk ⟨e, takeE (len * sz) b.cells ++ rows.flatten, true⟩])
          | _, _, _, _, _, _, _ => none)
        | _ => none)
      | _ => none))

section
omit [Laid]
variable {K : AV → Prop} {KH : AV → Heap → Prop} {v : AV} {hp hp' : Heap}
theorem eStore_ok {sz : Nat} {x y : AV} {KS : Heap → Prop} (h : eStore sz x y hp = some hp') (hk : KS hp') : iStore sz x y hp KS := by
  unfold eStore at h; unfold iStore
  split at h
  · rw [getE_eq] at h
    split at h
    · rename_i b e
      simp only [e]
      split at h
      · rename_i e1 e2 e3 e4
        cases h
        have e3 := Nat.eq_of_beq_eq_true e3
        rw [lenF_eq] at e3
        rw [allE_eq] at e4
        rw [setE_eq, splE_eq] at hk
        exact ⟨⟨e1, by rw [e3]; exact (hasN_iff _ _).1 e2, e3, e4⟩, hk⟩
      · cases h
    · cases h
  · cases h
theorem eNew_ok {t : TypeId} {x : AV} (h : eNew t x hp = some (v, hp')) (hk : KH v hp') : iNew t x hp KH := by
  unfold eNew at h; unfold iNew
  split at h
  · rename_i e; cases h; rw [allE_eq] at e; rw [lenF_eq] at hk; exact ⟨e, hk⟩
  · cases h
theorem bfillE_eq : ∀ (ps : List (Nat × Nat × AV)) (cells cs : List AV), bfillE cells ps = some cs → bfill cells ps = some cs
  | [], _, _, h => h
  | (o, n, x) :: r, cells, cs, h => by
    rw [bfillE] at h
    rw [bfill]
    split at h
    · rename_i e1 e2 e3
      have e1 := Nat.eq_of_beq_eq_true e1
      rw [lenF_eq] at e1
      rw [allE_eq] at e3
      rw [splE_eq] at h
      rw [if_pos ⟨e1, (hasN_iff _ _).1 e2, e3⟩]
      exact bfillE_eq r _ _ h
    · cases h
theorem eBuild_ok {z : AV} {ps : List (Nat × Nat × AV)} (h : eBuild z ps = some v) (hk : K v) : iBuild z ps K := by
  unfold eBuild at h; unfold iBuild
  split at h
  · rename_i e; cases h; simp only [bfillE_eq _ _ _ e]; exact hk
  · cases h
theorem eMkSl_ok {t len sz : Nat} {z : AV} {ps : List (Nat × Nat × AV)} (h : eMkSl t len sz z ps hp = some (v, hp')) (hk : KH v hp') : iMkSl t len sz z ps hp KH := by
  unfold eMkSl at h; unfold iMkSl
  split at h
  · rename_i e
    simp only [bfillE_eq _ _ _ e]
    cases len with
    | zero => cases h; exact hk
    | succ len => simp only [Option.some.injEq, Prod.mk.injEq] at h; obtain ⟨rfl, rfl⟩ := h; rw [lenF_eq] at hk; exact hk
  · cases h
theorem eMkSlP_ok {len sz : Nat} {z : AV} {ps : List (Nat × Nat × AV)} (h : eMkSlP len sz z ps = some v) (hk : K v) : iMkSlP len sz z ps K := by
  unfold eMkSlP at h; unfold iMkSlP
  split at h
  · rename_i e; cases h; simp only [bfillE_eq _ _ _ e]; exact hk
  · cases h
theorem eMake_ok {e sz bytes : Nat} {z l c : AV} (h : eMake e sz bytes z l c hp = some (v, hp')) (hk : KH v hp') : iMake e sz bytes z l c hp KH := by
  unfold eMake at h; unfold iMake
  split at h
  · rename_i k1 l k2 c
    split at h
    · rename_i e1 e2 e3
      cases h
      rw [Nat.ble_eq] at e1 e2 e3
      rw [lenF_eq] at hk
      refine ⟨⟨Int.natCast_nonneg _, by simp only [Int.ofNat_eq_natCast]; omega, ?_, by simp only [Int.ofNat_eq_natCast]; omega⟩, ?_⟩
      · have h2 : ((bytes * c : Nat) : Int) ≤ ((281474976710656 : Nat) : Int) := Int.ofNat_le.2 e2
        rw [Int.natCast_mul] at h2
        exact h2
      · simp only [Int.ofNat_eq_natCast, Int.toNat_natCast]; exact hk
    · cases h
  · cases h
theorem eToBytes_ok {e : Nat} {x : AV} (h : eToBytes e x hp = some (v, hp')) (hk : KH v hp') : iToBytes e x hp KH := by
  unfold eToBytes at h; unfold iToBytes
  split at h
  · cases h; rw [lenF_eq, lenF_eq] at hk; exact hk
  · cases h
theorem srcE_eq {sz : Nat} {x : AV} {rows : List (List AV)} (h : srcE hp sz x = some rows) : srcR hp sz x = some rows := by
  unfold srcE at h; unfold srcR
  generalize unsb x = y at h ⊢
  split at h
  · exact h
  · split at h
    · rename_i e; simp only [Nat.eq_of_beq_eq_true e, if_true]; exact h
    · cases h
  · rw [getE_eq] at h
    split at h
    · rename_i e
      simp only [e]
      split at h
      · rename_i e1 e2
        rw [if_pos ⟨Nat.eq_of_beq_eq_true e1, (hasN_iff _ _).1 e2⟩]
        rw [dropE_eq] at h; exact h
      · cases h
    · cases h
  · cases h
theorem eOfBytes_ok {x : AV} (h : eOfBytes x hp = some v) (hk : K v) : iOfBytes x hp K := by
  unfold eOfBytes at h; unfold iOfBytes
  split at h
  · rename_i e
    split at h
    · rename_i e2; cases h; simp only [srcE_eq e, Option.bind_some, e2]; exact hk
    · cases h
  · cases h
theorem eLenS_ok {x : AV} (h : eLenS x = some v) (hk : K v) : iLenS x K := by
  unfold eLenS at h; unfold iLenS
  split at h
  · cases h; intro _; rw [lenF_eq] at hk; exact hk
  · cases h
theorem eLen_ok {x : AV} (h : eLen x = some v) (hk : K v) : iLen x K := by
  unfold eLen at h; unfold iLen
  generalize unsb x = y at h ⊢
  split at h
  · cases h; intro _; rw [lenF_eq] at hk; exact hk
  · cases h; intro _; exact hk
  · cases h; exact hk
  · cases h
theorem eLenS_q {x : AV} (h : eLenS x = some v) (hk : K v) : iLenSQ x K := by
  unfold eLenS at h; unfold iLenSQ
  split at h
  · cases h; rw [lenF_eq] at hk; exact hk
  · cases h
theorem eLen_q {x : AV} (h : eLen x = some v) (hk : K v) : iLenQ x K := by
  unfold eLen at h; unfold iLenQ
  generalize unsb x = y at h ⊢
  split at h
  · cases h; rw [lenF_eq] at hk; exact hk
  · cases h; exact hk
  · cases h; exact hk
  · cases h
theorem eMin_ok {x y : AV} (h : eMin x y = some v) (hk : K v) : iMin x y K := by
  unfold eMin at h; unfold iMin
  split at h
  · rename_i k a k' b
    split at h
    · rename_i e
      cases h
      refine ⟨kEq_eq e, ?_⟩
      rw [ltI_eq] at hk
      by_cases q : b < a <;> simp only [q, decide_true, decide_false, if_true, if_false] at hk ⊢ <;> exact hk
    · cases h
  · cases h
theorem eMax_ok {x y : AV} (h : eMax x y = some v) (hk : K v) : iMax x y K := by
  unfold eMax at h; unfold iMax
  split at h
  · rename_i k a k' b
    split at h
    · rename_i e
      cases h
      refine ⟨kEq_eq e, ?_⟩
      rw [ltI_eq] at hk
      by_cases q : a < b
      · simp only [q, decide_true] at hk; rw [if_pos (show b > a from q)]; exact hk
      · simp only [q, decide_false] at hk; rw [if_neg (show ¬ b > a from q)]; exact hk
    · cases h
  · cases h
theorem rowE_eq (sz : Nat) (r : List AV) : rowE sz r = rowOK sz r := by
  unfold rowE rowOK
  rw [lenF_eq, allE_eq]
  have : Nat.beq r.length sz = (r.length == sz) := by rw [Bool.eq_iff_iff]; simp [Nat.beq_eq]
  rw [this]
  cases (r.length == sz) <;> cases r.all scal <;> rfl
theorem roomE_ok {b n : Nat} (h : roomE b n = true) : roomA b n := by
  unfold roomE at h
  split at h
  · rename_i e1 e2; rw [Nat.ble_eq] at e1 e2; exact ⟨e1, e2⟩
  · cases h
theorem eAppTo_ok {own : Bool} {e sz bytes : Nat} {x : AV} {src : Option (List (List AV))} (h : eAppTo own e sz bytes x src hp = some (v, hp')) (hk : KH v hp') : iAppTo own e sz bytes x src hp KH := by
  unfold eAppTo at h; unfold iAppTo
  split at h
  · cases h
  · rename_i rows
    split at h
    · cases h
    · rename_i eall
      rw [show rowE sz = rowOK sz from funext (rowE_eq sz), allE_eq] at eall
      refine ⟨eall, ?_⟩
      generalize nle x = y at h ⊢
      split at h
      · split at h
        · cases h
        · rename_i er
          rw [lenF_eq] at er
          cases own with
          | false => simp only [Option.some.injEq, Prod.mk.injEq] at h; obtain ⟨rfl, rfl⟩ := h; rw [lenF_eq, lenF_eq] at hk; exact ⟨roomE_ok er, hk⟩
          | true =>
            simp only at h ⊢
            split at h
            · cases h
            · simp only [Option.some.injEq, Prod.mk.injEq] at h; obtain ⟨rfl, rfl⟩ := h; rw [lenF_eq, lenF_eq] at hk; exact ⟨by simp, roomE_ok er, hk⟩
      · rw [getE_eq] at h
        split at h
        · rename_i eg
          simp only [eg]
          split at h
          · rename_i e1 e2 e3 e4 e5
            simp only [Option.some.injEq, Prod.mk.injEq] at h; obtain ⟨rfl, rfl⟩ := h
            rw [lenF_eq] at e4 e5
            rw [setE_eq, lenF_eq] at hk
            exact ⟨⟨Nat.eq_of_beq_eq_true e1, Nat.eq_of_beq_eq_true e2, Nat.eq_of_beq_eq_true e3, Nat.eq_of_beq_eq_true e4⟩, roomE_ok e5, hk⟩
          · cases h
        · cases h
      · rw [getE_eq] at h
        split at h
        · rename_i eg
          simp only [eg]
          split at h
          · rename_i e1 e2 e3 e4 e5 e6 e7
            simp only [Option.some.injEq, Prod.mk.injEq] at h; obtain ⟨rfl, rfl⟩ := h
            rw [lenF_eq] at e6 e7
            rw [setE_eq, lenF_eq, lenF_eq, takeE_eq] at hk
            rw [Nat.ble_eq] at e6
            exact ⟨⟨Nat.eq_of_beq_eq_true e1, Nat.eq_of_beq_eq_true e2, e3, Nat.eq_of_beq_eq_true e4, (hasN_iff _ _).1 e5⟩, by omega, roomE_ok e7, hk⟩
          · cases h
        · cases h
      · cases h
end
end Go.Aw
