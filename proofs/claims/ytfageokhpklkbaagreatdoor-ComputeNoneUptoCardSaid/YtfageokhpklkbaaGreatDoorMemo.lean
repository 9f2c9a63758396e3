/-
 Calls that are known by runs of their own.
 No conditions.
-/
import Derived.Test.YtfageokhpklkbaaGreatDoorL4
set_option linter.unusedVariables false
set_option linter.unusedSimpArgs false
namespace Go.Proofs.YtfageokhpklkbaaGreatDoor
open Go Go.Aw Go.RowKit
set_option maxRecDepth 1000000
abbrev cc:=List (Nat × List AV × AV)
noncomputable def oc (xs ys : List AV) : Bool:=eY (.tup xs) (.tup ys)
noncomputable def bH [Laid] (P : Program) (C : Cfg) (known : aw) (l : cc) : Bool:=js (fun p=>match cq P p.1,fc p.2.1,fc [p.2.2],iy P C known 80 p.1 p.2.1 [] with|true,true,true,some (r,none)=>eY r p.2.2|_,_,_,_=>false) l
noncomputable def vj (l : cc) (f : Nat) (args : List AV) : Option AV:=List.rec (motive:=fun _=>Option AV) none (fun p _ ih=>match Nat.beq p.1 f with|true=>(match oc p.2.1 args with|true=>some p.2.2|false=>ih)|false=>ih) l
noncomputable def bU (l : cc) (known : aw) : aw:=fun f args h=>match vj l f args with|some r=>some (r,none)|none=>known f args h
theorem Ev {l : cc} {f : Nat} {args : List AV} {r : AV} (e : vj l f args = some r) : (f,args,r) ∈ l:=by
 induction l with
 | nil=>cases e
 | cons p l ih =>
   have e : (match Nat.beq p.1 f with|true=>(match oc p.2.1 args with|true=>some p.2.2|false=>vj l f args)|false=>vj l f args) = some r:=e
   split at e
   ·rename_i h1
    split at e
    ·rename_i h2
     cases e
     have h2:=iV _ _ h2
     cases h2
     have h1:=Nat.eq_of_beq_eq_true h1
     subst h1
     exact List.mem_cons_self
    ·exact List.mem_cons_of_mem _ (ih e)
   ·exact List.mem_cons_of_mem _ (ih e)
theorem Ho [Laid] {P : Program} {C : Cfg} {known : aw} (hk : aW P known) {l : cc} (h : bH P C known l = true) {f : Nat} {args : List AV} {r : AV} (m : (f,args,r) ∈ l) : cq P f = true ∧ Con P f args r:=by
 unfold bH at h
 rw [eH] at h
 have:=List.all_eq_true.1 h _ m
 split at this
 ·rename_i r' h1 h2 h3 h4
  simp only at h1 h2 h3 h4 this
  have:=iV _ _ this
  subst this
  exact ⟨h1,gF hk h2 h3 h1 h4⟩
 ·cases this
theorem bq [Laid] {P : Program} {C : Cfg} {known known' : aw} (hk : aW P known) (hk' : aW P known') {l : cc} (h : ∀ p ∈ l,∃ m : cc,p ∈ m ∧ bH P C known m = true) : aW P (bU l known'):=by
 intro f args hp v oh e
 unfold bU at e
 split at e
 ·rename_i r hr
  cases e
  obtain ⟨m,hm,ho⟩:=h _ (Ev hr)
  obtain ⟨hb,c⟩:=Ho hk ho hm
  exact .inl ⟨hb,c.call ⟨rfl,rfl⟩⟩
 ·exact hk' _ _ _ _ _ e
end Go.Proofs.YtfageokhpklkbaaGreatDoor

