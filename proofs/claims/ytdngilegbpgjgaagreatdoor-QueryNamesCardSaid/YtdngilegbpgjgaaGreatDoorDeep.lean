/-
  Less is said of what lies deep in what is told: a nil slice is a slice with nothing in it.
  No conditions: lemmas.
-/
import Derived.Test.YtdngilegbpgjgaaGreatDoorL5
set_option linter.unusedVariables false
set_option linter.unusedSimpArgs false
namespace Go.Aw
open Go Go.RowKit
mutual
inductive DLe : AV → AV → Prop
  | refl (a : AV) : DLe a a
  | nil (s : Nat) : DLe (.v (.slice none 0 0)) (.sl s [])
  | sl {s : Nat} {r r' : List (List AV)} : DLeR r r' → DLe (.sl s r) (.sl s r')
  | tup {r r' : List AV} : DLeL r r' → DLe (.tup r) (.tup r')
inductive DLeL : List AV → List AV → Prop
  | nil : DLeL [] []
  | cons {a b : AV} {as bs : List AV} : DLe a b → DLeL as bs → DLeL (a :: as) (b :: bs)
inductive DLeR : List (List AV) → List (List AV) → Prop
  | nil : DLeR [] []
  | cons {a b : List AV} {as bs : List (List AV)} : DLeL a b → DLeR as bs → DLeR (a :: as) (b :: bs)
end
theorem DLeL.length : ∀ {as bs : List AV}, DLeL as bs → as.length = bs.length
  | _, _, .nil => rfl
  | _, _, .cons _ k => by simp [DLeL.length k]
theorem DLeR.length : ∀ {as bs : List (List AV)}, DLeR as bs → as.length = bs.length
  | _, _, .nil => rfl
  | _, _, .cons _ k => by simp [DLeR.length k]
theorem DLeL.refl : ∀ as : List AV, DLeL as as
  | [] => .nil
  | a :: as => .cons (.refl a) (DLeL.refl as)
variable {ι : List Ix} {S : Stab} {w : World}
mutual
theorem Rep.dle : ∀ {a b : AV}, DLe a b → ∀ v, Rep ι S w a v → Rep ι S w b v
  | _, _, .refl _, v, h => h
  | _, _, .nil s, v, h => by
    rw [Rep_v] at h; subst h
    rw [Rep]
    exact ⟨none, 0, rfl, by simp, by simp, .inl rfl⟩
  | _, _, .sl k, v, h => by
    rw [Rep] at h ⊢
    obtain ⟨a, cap, rfl, h1, h2, h3⟩ := h
    refine ⟨a, cap, by rw [k.length], by rw [← k.length]; exact h1, h2, ?_⟩
    rcases h3 with rfl | ⟨b, off, e, h3⟩
    · left
      cases k
      rfl
    · exact .inr ⟨b, off, e, RepR.dle k _ _ h3⟩
  | _, _, .tup k, v, h => by
    rw [Rep] at h ⊢
    obtain ⟨vs, e, h1⟩ := h
    exact ⟨vs, e, RepL.dle k _ h1⟩
theorem RepL.dle : ∀ {as bs : List AV}, DLeL as bs → ∀ vs, RepL ι S w as vs → RepL ι S w bs vs
  | _, _, .nil, vs, h => h
  | _, _, .cons k ks, vs, h => by
    rw [RepL] at h ⊢
    obtain ⟨u, us, e, h1, h2⟩ := h
    exact ⟨u, us, e, Rep.dle k _ h1, RepL.dle ks _ h2⟩
theorem RepC.dle : ∀ {as bs : List AV}, DLeL as bs → ∀ b off, RepC ι S w as b off → RepC ι S w bs b off
  | _, _, .nil, b, off, h => h
  | _, _, .cons k ks, b, off, h => by
    rw [RepC] at h ⊢
    obtain ⟨⟨u, h1, h2, h3⟩, h4⟩ := h
    exact ⟨⟨u, h1, h2, Rep.dle k _ h3⟩, RepC.dle ks _ _ h4⟩
theorem RepR.dle : ∀ {sz : Nat} {as bs : List (List AV)}, DLeR as bs → ∀ b off, RepR ι S w sz as b off → RepR ι S w sz bs b off
  | _, _, _, .nil, b, off, h => h
  | sz, _, _, .cons k ks, b, off, h => by
    rw [RepR] at h ⊢
    obtain ⟨h1, h2, h3⟩ := h
    exact ⟨by rw [← k.length]; exact h1, RepC.dle k _ _ h2, RepR.dle ks _ _ h3⟩
end
variable [Laid]
theorem Con.dle {P : Program} {f : FuncId} {args : List AV} {r r' : AV} (c : Con P f args r) (d : DLe r r') (p : Pure r') : Con P f args r' := by
  obtain ⟨pa, pr, c⟩ := c
  refine ⟨pa, p, ?_⟩
  intro base ι S w vs h1 h2
  refine (c base ι S w vs h1 h2).mono ?_
  rintro e w' ⟨v, ι', S', r2, h', e1, e2, e3, e4, e5, rfl⟩
  exact ⟨v, ι', S', r', h', e1, e2, Rep.dle d v e3, e4, e5, rfl⟩
/-- A call of a function that is known at what comes in, when that is told without own memory, and less is said of it. -/
theorem iCall_borrowD {P : Program} {f : FuncId} {args args' : List AV} {r : AV} {h : Heap} {K : AV → Heap → Prop} (hb : hasBody P f = true) (c : Con P f args' r) (hl : DLeL (args.map (tl 0 h 3)) args') (fl : Flat r) (k : K r h) : iCall P (.fn (.func f) [] []) args h K := by
  refine ⟨hb, ?_⟩
  simp only [List.nil_append, List.append_nil]
  obtain ⟨pa, pr, c⟩ := c
  intro base ι S w vs h1 h2
  obtain ⟨hE0, hh0⟩ := h2.told (L := 0) (Nat.zero_le _)
  have hr : RepL (ι.take 0) (stabT 0 ι S h) w args' vs := by
    refine RepL.dle hl vs ?_
    have := RepL.tlA (L := 0) (f := tl 0 h 2) h2 (Rep.tl h2 2) args vs h1
    rwa [tlL_map] at this
  simp only [List.take_zero] at hr hE0
  refine (c w.heap.size [] (stabT 0 ι S h) w vs hr (HOK.nil _ w hh0.stb hh0.gl)).mono ?_
  rintro e w' ⟨v, ι', S', r', h', e1, e2, e3, e4, _, rfl⟩
  have hE : Evo ι.length w.heap.size ι S w ι S w' := ⟨fun _ _ => IxLe.refl _, fun _ _ q => q, fun _ _ q => .inl q, fun b o q => e2.cell b o (.inl q), e2.shp, e2.bel⟩
  exact ⟨v, ι, S, r', h, e1, hE.mono (by rw [h2.len]; exact Nat.le_refl _) h2.bas, Rep.flat r' v fl e3, h2.over hE (fun b o q => Nat.lt_of_lt_of_le (h2.stb b o q) e2.bel.size), Nat.le_refl _, k⟩
end Go.Aw
