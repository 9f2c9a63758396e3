/-
  Calls that are known by runs of their own.
  No conditions.
-/
import Derived.Test.YtpggiljgcckmoaaGreatDoorKnown
namespace Go.Proofs.YtpggiljgcckmoaaGreatDoor
open Go Go.Aw Go.RowKit
set_option maxRecDepth 1000000
abbrev Memo := List (Nat × List AV × AV)
noncomputable def beqL (xs ys : List AV) : Bool := beqA (.tup xs) (.tup ys)
noncomputable def memoOK [Laid] (P : Program) (C : Cfg) (known : CallF) (l : Memo) : Bool := allE (fun p => match hasBody P p.1, isPure p.2.1, isPure [p.2.2], callD P C known 80 p.1 p.2.1 [] with | true, true, true, some (r, none) => beqA r p.2.2 | _, _, _, _ => false) l
noncomputable def findM (l : Memo) (f : Nat) (args : List AV) : Option AV := List.rec (motive := fun _ => Option AV) none (fun p _ ih => match Nat.beq p.1 f with | true => (match beqL p.2.1 args with | true => some p.2.2 | false => ih) | false => ih) l
noncomputable def withM (l : Memo) (known : CallF) : CallF := fun f args h => match findM l f args with | some r => some (r, none) | none => known f args h
theorem findM_mem {l : Memo} {f : Nat} {args : List AV} {r : AV} (e : findM l f args = some r) : (f, args, r) ∈ l := by
  induction l with
  | nil => cases e
  | cons p l ih =>
    have e : (match Nat.beq p.1 f with | true => (match beqL p.2.1 args with | true => some p.2.2 | false => findM l f args) | false => findM l f args) = some r := e
    split at e
    · rename_i h1
      split at e
      · rename_i h2
        cases e
        have h2 := beqA_eq _ _ h2
        cases h2
        have h1 := Nat.eq_of_beq_eq_true h1
        subst h1
        exact List.mem_cons_self
      · exact List.mem_cons_of_mem _ (ih e)
    · exact List.mem_cons_of_mem _ (ih e)
theorem memo_con [Laid] {P : Program} {C : Cfg} {known : CallF} (hk : CallOK P known) {l : Memo} (h : memoOK P C known l = true) {f : Nat} {args : List AV} {r : AV} (m : (f, args, r) ∈ l) : hasBody P f = true ∧ Con P f args r := by
  unfold memoOK at h
  rw [allE_eq] at h
  have := List.all_eq_true.1 h _ m
  split at this
  · rename_i r' h1 h2 h3 h4
    simp only at h1 h2 h3 h4 this
    have := beqA_eq _ _ this
    subst this
    exact ⟨h1, callD_con hk h2 h3 h1 h4⟩
  · cases this
theorem withM_ok [Laid] {P : Program} {C : Cfg} {known known' : CallF} (hk : CallOK P known) (hk' : CallOK P known') {l : Memo} (h : ∀ p ∈ l, ∃ m : Memo, p ∈ m ∧ memoOK P C known m = true) : CallOK P (withM l known') := by
  intro f args hp v oh e
  unfold withM at e
  split at e
  · rename_i r hr
    cases e
    obtain ⟨m, hm, ho⟩ := h _ (findM_mem hr)
    obtain ⟨hb, c⟩ := memo_con hk ho hm
    exact .inl ⟨hb, c.call ⟨rfl, rfl⟩⟩
  · exact hk' _ _ _ _ _ e
end Go.Proofs.YtpggiljgcckmoaaGreatDoor
