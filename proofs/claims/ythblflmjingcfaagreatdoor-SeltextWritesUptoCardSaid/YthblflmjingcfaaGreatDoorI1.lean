/-
  A writer in the call's own memory: what its functions come to. A writer's bytes, length and text; tokens. A writer's text of a simple selector. A writer's text of a list. The program's Text; the law.
  No conditions.
-/
import Derived.Test.YthblflmjingcfaaGreatDoorWWri
import Derived.Test.YthblflmjingcfaaGreatDoorB1
import Derived.Test.YthblflmjingcfaaGreatDoorH2
set_option linter.unusedVariables false
set_option linter.unusedSimpArgs false
section
namespace Go.Proofs.YthblflmjingcfaaGreatDoor
open Go Go.Aw Go.Sel
set_option maxRecDepth 100000
/-- The writer holds a text. -/
def Bl (id : Nat) (h : Heap) (t : Str) : Prop :=
  ∃ x, h[id]? = some (.blk x) ∧ x.wr = true ∧ x.ty = 61 ∧ ((x.cells = [.v (.pointer none), .v (.slice none 0 0)] ∧ t = []) ∨ ∃ tid, x.cells = [.op id 0, .sb tid 1 (byR t)] ∧ h[tid]? = some (.tok 5 1 t.length))
/-- All other memory, but for slices that grow, is as it was. -/
def Fr (id : Nat) (h h' : Heap) : Prop := h.length ≤ h'.length ∧ ∀ j, j < h.length → j ≠ id → (∀ e s n, h[j]? ≠ some (.tok e s n)) → h'[j]? = h[j]?
theorem Fr.refl (id : Nat) (h : Heap) : Fr id h h := ⟨Nat.le_refl _, fun _ _ _ _ => rfl⟩
theorem Fr.trans {id : Nat} {h h' h'' : Heap} (a : Fr id h h') (b : Fr id h' h'') : Fr id h h'' :=
  ⟨Nat.le_trans a.1 b.1, fun j hj hne ht => by
    have e := a.2 j hj hne ht
    rw [b.2 j (Nat.lt_of_lt_of_le hj a.1) hne (by rw [e]; exact ht), e]⟩
theorem Fr.blk {id : Nat} {h h' : Heap} (f : Fr id h h') {j : Nat} {x : Blk} (hj : h[j]? = some (.blk x)) (hne : j ≠ id) : h'[j]? = some (.blk x) := by
  rw [f.2 j (tok_lt hj) hne (by rw [hj]; intro e s n q; cases q), hj]
theorem Fr.app (id : Nat) (h k : Heap) : Fr id h (h ++ k) := ⟨by simp, fun j hj _ _ => List.getElem?_append_left hj⟩
theorem Fr.set {id : Nat} (h : Heap) (e : Ent) : Fr id h (h.set id e) := ⟨by simp, fun j _ hne _ => List.getElem?_set_ne (Ne.symm hne)⟩
theorem Fr.tok {id : Nat} {h : Heap} {tid : Nat} {e s n} (ht : h[tid]? = some (.tok e s n)) (x : Ent) : Fr id h (h.set tid x) := ⟨by simp, fun j _ _ hn => List.getElem?_set_ne fun q => by subst q; exact hn _ _ _ ht⟩
/-- A writer's memory, with something new behind it. -/
theorem Bl.app {id : Nat} {h : Heap} {t : Str} (b : Bl id h t) (k : Heap) : Bl id (h ++ k) t := by
  obtain ⟨x, h1, h2, h3, h4⟩ := b
  refine ⟨x, by rw [List.getElem?_append_left (tok_lt h1)]; exact h1, h2, h3, ?_⟩
  rcases h4 with h4 | ⟨tid, h4, h5⟩
  · exact .inl h4
  · exact .inr ⟨tid, h4, by rw [List.getElem?_append_left (tok_lt h5)]; exact h5⟩
theorem Bl.set {id : Nat} {h : Heap} {t : Str} (b : Bl id h t) {j : Nat} {x : Blk} (hj : h[j]? = some (.blk x)) (hne : j ≠ id) (y : Blk) : Bl id (h.set j (.blk y)) t := by
  obtain ⟨x', h1, h2, h3, h4⟩ := b
  refine ⟨x', by rw [List.getElem?_set_ne hne]; exact h1, h2, h3, ?_⟩
  rcases h4 with h4 | ⟨tid, h4, h5⟩
  · exact .inl h4
  · refine .inr ⟨tid, h4, ?_⟩
    rw [List.getElem?_set_ne fun q => by subst q; rw [hj] at h5; cases h5]
    exact h5
theorem a_appS0 {h : Heap} {x : AV} {l : Str} {K : AV → Heap → Prop} (ex : x = .v (.slice none 0 0)) (hl : l.length ≤ 2 ^ 41) (q : K (.sb h.length 1 (byR l)) (h ++ [.tok 5 1 l.length])) : iAppS false 5 1 x (.str l) h K := by
  subst ex
  unfold iAppS iAppTo
  exact ⟨byR_ok l, ⟨by unfold maxLen; simp; omega, by simp; omega⟩, by simpa using q⟩
theorem a_appS {h : Heap} {tid : Nat} {x : AV} {t l : Str} {K : AV → Heap → Prop} (ex : x = .sb tid 1 (byR t)) (ht : h[tid]? = some (.tok 5 1 t.length)) (hl : t.length + l.length ≤ 2 ^ 41) (q : K (.sb tid 1 (byR (t ++ l))) (h.set tid (.tok 5 1 (t ++ l).length))) : iAppS false 5 1 x (.str l) h K := by
  subst ex
  unfold iAppS iAppTo
  refine ⟨byR_ok l, ?_⟩
  simp only [nle]
  rw [ht]
  refine ⟨by simp, ⟨by unfold maxLen; simp; omega, by simp; omega⟩, ?_⟩
  simpa using q
variable [Laid]
theorem acc_ws {id : Nat} {h : Heap} {t : Str} (b : Bl id h t) (s : Str) (hl : t.length + s.length ≤ 2 ^ 41) :
    ACall Tryz.prog 32 [.op id 0, .str s] h fun _ h' => Bl id h' (t ++ s) ∧ Fr id h h' := by
  obtain ⟨x, h1, h2, h3, h4⟩ := b
  refine (V32 _ _).acall ?_
  unfold W32
  have hid := tok_lt h1
  rcases h4 with ⟨h4, rfl⟩ | ⟨tid, h4, h5⟩
  · refine a_acall (by kernel_rfl) rfl (acc_fresh h1 h2 h3 (by rw [h4]; rfl) (by rw [h4]; decide)) ?_
    rintro _ _ ⟨rfl, rfl⟩
    rw [iNilF_o]
    refine w_fad rfl ?_
    have e1 : (h.set id (.blk { x with cells := x.cells.set 0 (.op id 0) }))[id]? = some (.blk ⟨61, [.op id 0, .v (.slice none 0 0)], true⟩) := by
      rw [List.getElem?_set_self hid, h4]
      obtain ⟨ty, cells, wr⟩ := x
      simp only at h2 h3
      subst h2; subst h3; rfl
    generalize hH : h.set id (.blk { x with cells := x.cells.set 0 (.op id 0) }) = H at e1
    have fH : Fr id h H := by rw [← hH]; exact Fr.set _ _
    refine w_load rfl e1 rfl ?_
    refine a_appS0 rfl (by simp at hl; omega) ?_
    rw [iNilF_o]
    refine w_fad rfl ?_
    have hid2 := tok_lt e1
    refine a_store (cs := [.sb H.length 1 (byR s)]) rfl (by rw [List.getElem?_append_left hid2]; exact e1) rfl rfl (by simp) rfl rfl ?_
    refine a_lenS rfl fun _ => ?_
    refine ⟨_, _, Wk.refl _ _ _ (by have := fH.1; simp; omega), ⟨⟨61, [.op id 0, .sb H.length 1 (byR s)], true⟩, ?_, rfl, rfl, .inr ⟨H.length, by simp, ?_⟩⟩, ?_⟩
    · rw [List.getElem?_set_self (by simp; omega)]; rfl
    · rw [List.getElem?_set_ne (by omega)]; simp
    · exact fH.trans ((Fr.app id H _).trans (Fr.set _ _))
  · refine a_acall (by kernel_rfl) rfl (acc_used h1 (by rw [h4]; rfl)) ?_
    rintro _ _ ⟨rfl, rfl⟩
    rw [iNilF_o]
    refine w_fad rfl ?_
    refine w_load (c := .sb tid 1 (byR t)) rfl h1 (by rw [h4]; rfl) ?_
    refine a_appS rfl h5 hl ?_
    rw [iNilF_o]
    refine w_fad rfl ?_
    have hne : tid ≠ id := fun q => by subst q; rw [h1] at h5; cases h5
    have ht := tok_lt h5
    refine a_store (cs := [.sb tid 1 (byR (t ++ s))]) rfl (by rw [List.getElem?_set_ne hne]; exact h1) h2 rfl (by rw [h4]; simp) rfl rfl ?_
    refine a_lenS rfl fun _ => ?_
    refine ⟨_, _, Wk.refl _ _ _ (by simp), ⟨⟨x.ty, [.op id 0, .sb tid 1 (byR (t ++ s))], x.wr⟩, ?_, h2, h3, .inr ⟨tid, rfl, ?_⟩⟩, ?_⟩
    · rw [List.getElem?_set_self (by simp; omega), h4]; rfl
    · rw [List.getElem?_set_ne (Ne.symm hne), List.getElem?_set_self ht]
    · exact (Fr.tok h5 _).trans (Fr.set _ _)
end Go.Proofs.YthblflmjingcfaaGreatDoor
end

section
namespace Go.Proofs.YthblflmjingcfaaGreatDoor
open Go Go.Aw Go.Sel
set_option maxRecDepth 100000
variable [MaxL]
theorem acc_wb {id : Nat} {h : Heap} {t : Str} (b : Bl id h t) (c : UInt8) (hl : t.length + 1 ≤ 2 ^ 41) :
    ACall Tryz.prog 33 [.op id 0, byteA c] h fun _ h' => Bl id h' (t ++ [c]) ∧ Fr id h h' := by
  obtain ⟨x, h1, h2, h3, h4⟩ := b
  refine (V33 _ _).acall ?_
  unfold W33
  have hid := tok_lt h1
  rcases h4 with ⟨h4, rfl⟩ | ⟨tid, h4, h5⟩
  · refine a_acall (by kernel_rfl) rfl (acc_fresh h1 h2 h3 (by rw [h4]; rfl) (by rw [h4]; decide)) ?_
    rintro _ _ ⟨rfl, rfl⟩
    rw [iNilF_o]
    refine w_fad rfl ?_
    have e1 : (h.set id (.blk { x with cells := x.cells.set 0 (.op id 0) }))[id]? = some (.blk ⟨61, [.op id 0, .v (.slice none 0 0)], true⟩) := by
      rw [List.getElem?_set_self hid, h4]
      obtain ⟨ty, cells, wr⟩ := x
      simp only at h2 h3
      subst h2; subst h3; rfl
    generalize hH : h.set id (.blk { x with cells := x.cells.set 0 (.op id 0) }) = H at e1
    have fH : Fr id h H := by rw [← hH]; exact Fr.set _ _
    refine w_load rfl e1 rfl ?_
    refine a_mkP1 ?_
    refine g_app0 [c] rfl rfl (by simp) ?_
    rw [iNilF_o]
    refine w_fad rfl ?_
    have hid2 := tok_lt e1
    refine a_store (cs := [.sb H.length 1 (byR [c])]) rfl (by rw [List.getElem?_append_left hid2]; exact e1) rfl rfl (by simp) rfl rfl ?_
    refine ⟨_, _, Wk.refl _ _ _ (by have := fH.1; simp; omega), ⟨⟨61, [.op id 0, .sb H.length 1 (byR [c])], true⟩, ?_, rfl, rfl, .inr ⟨H.length, by simp, ?_⟩⟩, ?_⟩
    · rw [List.getElem?_set_self (by simp; omega)]; rfl
    · rw [List.getElem?_set_ne (by omega)]; simp
    · exact fH.trans ((Fr.app id H _).trans (Fr.set _ _))
  · refine a_acall (by kernel_rfl) rfl (acc_used h1 (by rw [h4]; rfl)) ?_
    rintro _ _ ⟨rfl, rfl⟩
    rw [iNilF_o]
    refine w_fad rfl ?_
    refine w_load (c := .sb tid 1 (byR t)) rfl h1 (by rw [h4]; rfl) ?_
    refine a_mkP1 ?_
    refine g_app [c] rfl rfl (by rw [h5]; simp) (by simp; omega) ?_
    rw [iNilF_o]
    refine w_fad rfl ?_
    have hne : tid ≠ id := fun q => by subst q; rw [h1] at h5; cases h5
    have ht := tok_lt h5
    refine a_store (cs := [.sb tid 1 (byR (t ++ [c]))]) rfl (by rw [List.getElem?_set_ne hne]; exact h1) h2 (by simp [vcells]) (by rw [h4]; simp) rfl rfl ?_
    refine ⟨_, _, Wk.refl _ _ _ (by simp), ⟨⟨x.ty, [.op id 0, .sb tid 1 (byR (t ++ [c]))], x.wr⟩, ?_, h2, h3, .inr ⟨tid, rfl, ?_⟩⟩, ?_⟩
    · rw [List.getElem?_set_self (by simp; omega), h4]; rfl
    · rw [List.getElem?_set_ne (Ne.symm hne), List.getElem?_set_self ht]; simp
    · exact (Fr.tok h5 _).trans (Fr.set _ _)
theorem acc_blen {id : Nat} {h : Heap} {t : Str} (b : Bl id h t) : ACall Tryz.prog 20 [.op id 0] h fun r h' => r = int t.length ∧ h' = h := by
  obtain ⟨x, h1, h2, h3, h4⟩ := b
  refine (V20 _).acall ?_
  unfold W20
  rw [iNilF_o]
  refine w_fad rfl ?_
  rcases h4 with ⟨h4, rfl⟩ | ⟨tid, h4, h5⟩
  · refine w_load (c := .v (.slice none 0 0)) rfl h1 (by rw [h4]; rfl) ?_
    exact ⟨_, _, Wk.refl _ _ _ (Nat.le_refl _), rfl, rfl⟩
  · refine w_load (c := .sb tid 1 (byR t)) rfl h1 (by rw [h4]; rfl) ?_
    rw [iLen_b]
    intro _
    exact ⟨_, _, Wk.refl _ _ _ (Nat.le_refl _), by simp, rfl⟩
theorem acc_bstr {id : Nat} {h : Heap} {t : Str} (b : Bl id h t) (h0 : t ≠ []) : ACall Tryz.prog 21 [.op id 0] h fun r h' => r = .str t ∧ h.length ≤ h'.length := by
  obtain ⟨x, h1, h2, h3, h4⟩ := b
  rcases h4 with ⟨h4, rfl⟩ | ⟨tid, h4, h5⟩
  · exact absurd rfl h0
  · refine (acc_string (n := t.length) (rows := byR t) (l := t) h1 (by rw [h4]; rfl) h5 (by simp) rfl h0).mono ?_
    rintro r h' ⟨rfl, rfl⟩
    exact ⟨rfl, by simp⟩
theorem acc_token {id : Nat} {h : Heap} {t : Str} (b : Bl id h t) (k : Int) (s : Str) (f : Bool) (ok : tokOK k s f) (hz : noZero s = true) (hs : s.length ≤ 2 ^ 35) (hl : t.length + (oneT k s).length ≤ 2 ^ 41) :
    ACall Tryz.prog 34 [.op id 0, tokA k s f] h fun r h' => r = .tup [] ∧ Bl id h' (t ++ oneT k s) ∧ Fr id h h' := by
  refine (V34 _ _).acall ?_
  unfold W34
  refine n_new (h' := h ++ [.blk ⟨86, [u8 k, .str s, int 0, .str [], bool f], true⟩]) (n := h.length) (cs := [u8 k, .str s, int 0, .str [], bool f]) rfl rfl rfl rfl ?_
  refine w_loadA (b := ⟨86, [u8 k, .str s, int 0, .str [], bool f], true⟩) rfl (by simp) (Nat.le_refl _) ?_
  refine iCall_con (by kernel_rfl) (con_One k s f ok hz hs) ?_
  refine a_extr rfl rfl ?_
  refine a_extr rfl rfl ?_
  rw [iNilF_o]
  refine w_fad rfl ?_
  refine a_acall (by kernel_rfl) rfl (acc_ws (b.app _) (oneT k s) hl) ?_
  rintro _ h' ⟨b', f'⟩
  have f2 := (Fr.app id h _).trans f'
  exact ⟨_, _, Wk.refl _ _ _ f2.1, rfl, b', f2⟩
end Go.Proofs.YthblflmjingcfaaGreatDoor
end

section
namespace Go.Proofs.YthblflmjingcfaaGreatDoor
open Go Go.Aw Go.Sel
set_option maxRecDepth 100000
def nmsL : List Str := [[108, 105, 110, 107], [118, 105, 115, 105, 116, 101, 100], [97, 110, 121, 45, 108, 105, 110, 107], [114, 111, 111, 116], [101, 109, 112, 116, 121], [110, 116, 104, 45, 99, 104, 105, 108, 100], [110, 116, 104, 45, 108, 97, 115, 116, 45, 99, 104, 105, 108, 100], [105, 115], [119, 104, 101, 114, 101], [110, 111, 116], [104, 97, 115]]
theorem nms_at (j : Nat) (h : j ≤ 10) : (nmsL.map fun s => [AV.str s])[j]? = some [.str (nmsL.getD j [])] := by
  match j, h with
  | 0, _ | 1, _ | 2, _ | 3, _ | 4, _ | 5, _ | 6, _ | 7, _ | 8, _ | 9, _ | 10, _ => rfl
theorem kd_bare (j : Nat) (h : j ≤ 4) : kdL.getD j [] = [58] ++ nmsL.getD j [] := by
  match j, h with
  | 0, _ | 1, _ | 2, _ | 3, _ | 4, _ => rfl
theorem kd_par (j : Nat) (h5 : 5 ≤ j) (h : j ≤ 10) : kdL.getD j [] = [58] ++ nmsL.getD j [] ++ [40] := by
  match j, h5, h with
  | 5, _, _ | 6, _, _ | 7, _, _ | 8, _, _ | 9, _, _ | 10, _, _ => rfl
theorem kdOp (o : Nat) (h : o ≤ 6) : ([.str [], .str [61], .str [126, 61], .str [124, 61], .str [94, 61], .str [36, 61], .str [42, 61]] : List AV)[o]? = some (.str (opL.getD o [])) := by
  match o, h with
  | 0, _ | 1, _ | 2, _ | 3, _ | 4, _ | 5, _ | 6, _ => rfl
theorem kdFc (o : Nat) (h : o ≤ 1) : ([.str [58, 102, 105, 114, 115, 116, 45, 99, 104, 105, 108, 100], .str [58, 108, 97, 115, 116, 45, 99, 104, 105, 108, 100]] : List AV)[o]? = some (.str (fcL.getD o [])) := by
  match o, h with
  | 0, _ | 1, _ => rfl
theorem subU8 (k c : Int) (h : c ≤ k) (h2 : k ≤ 14) (h0 : 0 ≤ c) : IntKind.wrap .u8 (k - c) = (((k - c).toNat : Nat) : Int) := by
  rw [IntKind.wrap_u8]; omega
theorem w_nilF {P : Program} {x : AV} {id o : Nat} {K : AV → Prop} (e : x = .op id o) (q : K (.op id o)) : iNilF P x K := by subst e; exact q
theorem nms_len (n : Nat) : (nmsL.getD n []).length ≤ 14 := by
  match n with
  | 0 | 1 | 2 | 3 | 4 | 5 | 6 | 7 | 8 | 9 | 10 => decide
  | n + 11 => simp [nmsL]
theorem a_idxA {len : Nat} {x i : AV} {cs : List AV} {k : IntKind} {n : Nat} {c : AV} {K : AV → Prop} (ex : x = .agg cs) (ei : i = .v (.int k n)) (hn : n < len) (hc : cs[n]? = some c) (q : K c) : iIdxA false 1 len x i K := by
  subst ex; subst ei
  refine ⟨⟨by omega, by omega⟩, ?_⟩
  have e : cs.drop (((n : Nat) : Int).toNat * 1) = c :: cs.drop (n + 1) := by
    rw [Int.toNat_natCast, Nat.mul_one]
    obtain ⟨h1, h2⟩ := List.getElem?_eq_some_iff.1 hc
    rw [List.drop_eq_getElem_cons h1, h2]
  rw [e]
  exact q
variable [MaxL]
theorem con_names : Con Tryz.prog 52 [] (.sl 1 (nmsL.map fun s => [.str s])) := by
  refine (V52).gives (by simp) (by simp [nmsL]) ?_
  unfold W52
  unfold iMkSlP
  simp [bfill, rep0, vcells, setAll, scal, chunks]
  exact .pure (by simp) rfl
theorem k_ws {id : Nat} {h0 H : Heap} {u : Str} (b : Bl id H u) (f : Fr id h0 H) (s : Str) (hl : u.length + s.length ≤ 2 ^ 41) {args : List AV} (e : args = [.op id 0, .str s]) {K : AV → Heap → Prop} (k : ∀ r H', Bl id H' (u ++ s) → Fr id h0 H' → K r H') : iCall Tryz.prog (.fn (.func 32) [] []) args H K :=
  a_acall (by kernel_rfl) e (acc_ws b s hl) fun r H' ⟨b', f'⟩ => k r H' b' (f.trans f')
theorem k_wb {id : Nat} {h0 H : Heap} {u : Str} (b : Bl id H u) (f : Fr id h0 H) (c : UInt8) (hl : u.length + 1 ≤ 2 ^ 41) {args : List AV} (e : args = [.op id 0, byteA c]) {K : AV → Heap → Prop} (k : ∀ r H', Bl id H' (u ++ [c]) → Fr id h0 H' → K r H') : iCall Tryz.prog (.fn (.func 33) [] []) args H K :=
  a_acall (by kernel_rfl) e (acc_wb b c hl) fun r H' ⟨b', f'⟩ => k r H' b' (f.trans f')
theorem k_tok {id : Nat} {h0 H : Heap} {u : Str} (b : Bl id H u) (f : Fr id h0 H) (k : Int) (s : Str) (fl : Bool) (ok : tokOK k s fl) (hz : noZero s = true) (hs : s.length ≤ 2 ^ 35) (hl : u.length + (oneT k s).length ≤ 2 ^ 41) {args : List AV} (e : args = [.op id 0, tokA k s fl]) {K : AV → Heap → Prop} (q : ∀ r H', Bl id H' (u ++ oneT k s) → Fr id h0 H' → K r H') : iCall Tryz.prog (.fn (.func 34) [] []) args H K :=
  a_acall (by kernel_rfl) e (acc_token b k s fl ok hz hs hl) fun r H' ⟨_, b', f'⟩ => q r H' b' (f.trans f')
def WsL (n : Nat) : Prop := ∀ l, zXs l ≤ n → gXs l = true → ∀ d has rel, okXs d has rel l = true → ∀ id h t, Bl id h t → t.length + 100 * zXs l ≤ 2 ^ 40 →
  ACall Tryz.prog 19 [.op id 0, .sl 3 (encXs l)] h fun r h' => r = .tup [] ∧ Bl id h' (t ++ wrL l) ∧ Fr id h h'
def WsS (n : Nat) : Prop := ∀ s, zS s ≤ n → gS s = true → ∀ d has, okS d has s = true → ∀ id h t, Bl id h t → t.length + 100 * zS s ≤ 2 ^ 40 →
  ACall Tryz.prog 35 [.op id 0, .agg (encS s)] h fun r h' => r = .tup [] ∧ Bl id h' (t ++ txS s) ∧ Fr id h h'
omit [MaxL] in
theorem named_iff {s : Str} (h : named s = true) : s ≠ [] ∧ noZero s = true := by
  unfold named at h
  simp only [Bool.and_eq_true, Bool.not_eq_true', decide_eq_false_iff_not] at h
  exact ⟨h.1.1, h.2⟩
theorem wsS_step {n : Nat} (hn : n ≤ 2 ^ 28) (hL : WsL n) : WsS (n + 1) := by
  intro s hz hg d has ok id h t b hb
  have hlen := txS_len s
  obtain ⟨k, na, o, v, f, a, bb, w, l⟩ := s
  rw [zS] at hz hb hlen
  rw [gS, Bool.and_eq_true, decide_eq_true_eq] at hg
  rw [okS, Bool.and_eq_true] at ok
  obtain ⟨ok, okl⟩ := ok
  have hid : id < h.length := by obtain ⟨x, h1, _⟩ := b; exact tok_lt h1
  have h3 := nmT_len na
  refine (V35 _ _).acall ?_
  unfold W35 encS
  refine n_new (h' := h ++ [.blk ⟨53, [u1 k, .str na, u1 o, .str v, bool f, int a, int bb, bool w, .sl 3 (encXs l)], true⟩]) (n := h.length) (cs := [u1 k, .str na, u1 o, .str v, bool f, int a, int bb, bool w, .sl 3 (encXs l)]) rfl rfl rfl rfl ?_
  refine w_fad rfl ?_
  refine w_load (b := ⟨53, [u1 k, .str na, u1 o, .str v, bool f, int a, int bb, bool w, .sl 3 (encXs l)], true⟩) rfl (by simp) rfl ?_
  refine a_build rfl ?_
  refine n_new (h' := h ++ [.blk ⟨53, [u1 k, .str na, u1 o, .str v, bool f, int a, int bb, bool w, .sl 3 (encXs l)], true⟩, .blk ⟨86, [u8 0, .str [], int 0, .str [], ff], true⟩]) (n := h.length + 1) (cs := [u8 0, .str [], int 0, .str [], ff]) rfl rfl (by simp) (by simp) ?_
  refine n_store (b := ⟨86, [u8 0, .str [], int 0, .str [], ff], true⟩) (cs := [u8 1, .str na, int 0, .str [], ff]) (h' := h ++ [.blk ⟨53, [u1 k, .str na, u1 o, .str v, bool f, int a, int bb, bool w, .sl 3 (encXs l)], true⟩, .blk ⟨86, [u8 1, .str na, int 0, .str [], ff], true⟩]) rfl (by rw [List.getElem?_append_right (by omega)]; simp) rfl rfl (by simp) rfl rfl (by rw [List.set_append_right _ _ (by omega)]; simp [setAll]) ?_
  have hX : (h ++ [Ent.blk ⟨53, [u1 k, .str na, u1 o, .str v, bool f, int a, int bb, bool w, .sl 3 (encXs l)], true⟩, Ent.blk ⟨86, [u8 1, .str na, int 0, .str [], ff], true⟩])[h.length]? = some (.blk ⟨53, [u1 k, .str na, u1 o, .str v, bool f, int a, int bb, bool w, .sl 3 (encXs l)], true⟩) := by simp
  have hN : (h ++ [Ent.blk ⟨53, [u1 k, .str na, u1 o, .str v, bool f, int a, int bb, bool w, .sl 3 (encXs l)], true⟩, Ent.blk ⟨86, [u8 1, .str na, int 0, .str [], ff], true⟩])[h.length + 1]? = some (.blk ⟨86, [u8 1, .str na, int 0, .str [], ff], true⟩) := by
    rw [List.getElem?_append_right (by omega)]; simp
  have b2 := b.app [Ent.blk ⟨53, [u1 k, .str na, u1 o, .str v, bool f, int a, int bb, bool w, .sl 3 (encXs l)], true⟩, Ent.blk ⟨86, [u8 1, .str na, int 0, .str [], ff], true⟩]
  have f2 := Fr.app id h [Ent.blk ⟨53, [u1 k, .str na, u1 o, .str v, bool f, int a, int bb, bool w, .sl 3 (encXs l)], true⟩, Ent.blk ⟨86, [u8 1, .str na, int 0, .str [], ff], true⟩]
  generalize h ++ [Ent.blk ⟨53, [u1 k, .str na, u1 o, .str v, bool f, int a, int bb, bool w, .sl 3 (encXs l)], true⟩, Ent.blk ⟨86, [u8 1, .str na, int 0, .str [], ff], true⟩] = h2 at hX hN b2 f2 ⊢
  have g2 := Fr.refl id h2
  refine w_fad rfl ?_
  refine w_load rfl hX rfl ?_
  refine a_eql rfl rfl ?_
  have done : ∀ {H : Heap} {u : Str}, u = t ++ txS (.mk k na o v f a bb w l) → Bl id H u → Fr id h2 H → ∃ r' h'', Wk h.length [.tup []] H [r'] h'' ∧ r' = .tup [] ∧ Bl id h'' (t ++ txS (.mk k na o v f a bb w l)) ∧ Fr id h h'' := by
    intro H u e bH fH
    subst e
    have := f2.trans fH
    exact ⟨_, _, Wk.refl _ _ _ this.1, rfl, bH, this⟩
  by_cases h1 : k = 1
  · subst h1
    rw [bareOK, if_pos (.inl rfl)] at ok
    simp only [Bool.and_eq_true] at ok
    have hnm := named_iff ok.1.1.1.1.1.1
    refine a_cond1 rfl rfl ?_
    refine w_fad rfl ?_
    refine w_load rfl hX rfl ?_
    refine a_build rfl ?_
    refine k_tok b2 g2 4 na true (.inr (.inl ⟨rfl, rfl, hnm.1⟩)) hnm.2 (by omega) (by simp [oneT]; omega) rfl fun _ H b3 f3 => ?_
    exact done (by rw [txS, if_pos rfl]; rfl) b3 f3
  refine a_cond0 rfl (decide_eq_false h1) ?_
  refine a_eql rfl rfl ?_
  by_cases h4 : k = 2
  · subst h4
    rw [bareOK, if_pos (.inr rfl)] at ok
    simp only [Bool.and_eq_true] at ok
    have hnm := named_iff ok.1.1.1.1.1.1
    refine a_cond1 rfl rfl ?_
    refine w_nilF rfl ?_
    refine w_fad rfl ?_
    refine k_wb b2 g2 46 (by omega) rfl fun _ H b3 f3 => ?_
    refine w_loadA rfl (f3.blk hN (by omega)) (Nat.le_of_ble_eq_true rfl) ?_
    refine k_tok b3 f3 1 na false (.inl ⟨rfl, rfl, hnm.1⟩) hnm.2 (by omega) (by simp [oneT]; omega) rfl fun _ H b4 f4 => ?_
    exact done (by rw [txS, if_neg (by decide), if_pos rfl]; simp [oneT]) b4 f4
  refine a_cond0 rfl (decide_eq_false h4) ?_
  refine a_eql rfl rfl ?_
  rw [bareOK, if_neg (by omega)] at ok
  by_cases h5 : k = 3
  · subst h5
    rw [if_pos rfl] at ok
    simp only [Bool.and_eq_true, decide_eq_true_eq, small] at ok
    have hnm := named_iff ok.1.1.1.1.1.1.1.1
    have hv := quT_len v
    have hov := opL_len o.toNat
    have hzv := ok.1.1.1.1.1.2
    obtain ⟨o', rfl⟩ := Int.eq_ofNat_of_zero_le hg.1
    have ho6 : o' ≤ 6 := by have := ok.1.1.1.1.1.1.2; omega
    rw [Int.toNat_natCast] at hov
    have e1 : oneT 1 na = nmT na := by simp [oneT]
    have e5 : oneT 5 v = quT v := by simp [oneT]
    refine a_cond1 rfl rfl ?_
    refine w_nilF rfl ?_
    refine w_fad rfl ?_
    refine k_wb b2 g2 91 (by omega) rfl fun _ H b3 f3 => ?_
    refine w_loadA rfl (f3.blk hN (by omega)) (Nat.le_of_ble_eq_true rfl) ?_
    refine k_tok b3 f3 1 na false (.inl ⟨rfl, rfl, hnm.1⟩) hnm.2 (by omega) (by rw [e1]; simp only [List.length_append, List.length_cons, List.length_nil]; omega) rfl fun _ H b4 f4 => ?_
    rw [e1] at b4
    refine w_let ?_
    refine w_fad rfl ?_
    refine w_load rfl (f4.blk hX (by omega)) rfl ?_
    refine a_neq rfl rfl ?_
    refine a_cond rfl (fun eo => ?_) fun eo => ?_
    · have eo : ¬ ((o' : Nat) : Int) = 0 := by simpa using eo
      refine w_nilF rfl ?_
      refine w_fad rfl ?_
      refine a_build rfl ?_
      refine w_fad rfl ?_
      refine w_load rfl (f4.blk hX (by omega)) rfl ?_
      refine a_idxA rfl rfl (by omega) (kdOp o' ho6) ?_
      refine k_ws b4 f4 (opL.getD o' []) (by simp only [List.length_append, List.length_cons, List.length_nil]; omega) rfl fun _ H b5 f5 => ?_
      refine w_fad rfl ?_
      refine w_load rfl (f5.blk hX (by omega)) rfl ?_
      refine a_build rfl ?_
      refine k_tok b5 f5 5 v false (.inr (.inr ⟨rfl, rfl⟩)) hzv (by omega) (by rw [e5]; simp only [List.length_append, List.length_cons, List.length_nil]; omega) rfl fun _ H b6 f6 => ?_
      rw [e5] at b6
      refine w_and ?_
      refine w_let ?_
      refine w_fad rfl ?_
      refine w_load rfl (f6.blk hX (by omega)) rfl ?_
      refine a_cond rfl (fun ef => ?_) fun ef => ?_
      · refine w_nilF rfl ?_
        refine w_fad rfl ?_
        refine k_ws b6 f6 [32, 105] (by simp only [List.length_append, List.length_cons, List.length_nil] at *; omega) rfl fun _ H b8 f8 => ?_
        refine w_and ?_
        refine w_nilF rfl ?_
        refine w_fad rfl ?_
        refine k_wb b8 f8 93 (by simp only [List.length_append, List.length_cons, List.length_nil] at *; omega) rfl fun _ H b9 f9 => ?_
        exact done (by rw [txS, if_neg (by decide), if_neg (by decide), if_pos rfl, atT, ef, if_neg eo, Int.toNat_natCast]; simp [oneT]) b9 f9
      · refine w_and ?_
        refine w_nilF rfl ?_
        refine w_fad rfl ?_
        refine k_wb b6 f6 93 (by simp only [List.length_append, List.length_cons, List.length_nil] at *; omega) rfl fun _ H b9 f9 => ?_
        exact done (by rw [txS, if_neg (by decide), if_neg (by decide), if_pos rfl, atT, ef, if_neg eo, Int.toNat_natCast]; simp [oneT]) b9 f9
    · have eo : ((o' : Nat) : Int) = 0 := by simpa using eo
      refine w_and ?_
      refine w_let ?_
      refine w_fad rfl ?_
      refine w_load rfl (f4.blk hX (by omega)) rfl ?_
      refine a_cond rfl (fun ef => ?_) fun ef => ?_
      · refine w_nilF rfl ?_
        refine w_fad rfl ?_
        refine k_ws b4 f4 [32, 105] (by simp only [List.length_append, List.length_cons, List.length_nil] at *; omega) rfl fun _ H b8 f8 => ?_
        refine w_and ?_
        refine w_nilF rfl ?_
        refine w_fad rfl ?_
        refine k_wb b8 f8 93 (by simp only [List.length_append, List.length_cons, List.length_nil] at *; omega) rfl fun _ H b9 f9 => ?_
        exact done (by rw [txS, if_neg (by decide), if_neg (by decide), if_pos rfl, atT, ef, if_pos eo]; simp [oneT]) b9 f9
      · refine w_and ?_
        refine w_nilF rfl ?_
        refine w_fad rfl ?_
        refine k_wb b4 f4 93 (by simp only [List.length_append, List.length_cons, List.length_nil] at *; omega) rfl fun _ H b9 f9 => ?_
        exact done (by rw [txS, if_neg (by decide), if_neg (by decide), if_pos rfl, atT, ef, if_pos eo]; simp [oneT]) b9 f9
  refine a_cond0 rfl (decide_eq_false h5) ?_
  rw [if_neg h5] at ok
  simp only [Bool.and_eq_true, decide_eq_true_eq] at ok
  obtain ⟨⟨⟨⟨⟨rfl, rfl⟩, rfl⟩, hf⟩, hk⟩, ha⟩ := ok
  simp only [List.length_nil] at hz hb hlen
  have hwl := wrL_len l
  have hlist : ∀ {H : Heap} {u : Str}, Bl id H u → u.length + 100 * zXs l ≤ 2 ^ 40 → ACall Tryz.prog 19 [.op id 0, .sl 3 (encXs l)] H fun r h' => r = .tup [] ∧ Bl id h' (u ++ wrL l) ∧ Fr id H h' := by
    intro H u bH hH
    by_cases e : hasL k w = true
    · rw [if_pos e] at okl
      simp only [Bool.and_eq_true] at okl
      exact hL l (by omega) hg.2 _ _ _ okl.2 _ _ _ bH hH
    · rw [if_neg e] at okl
      obtain rfl : l = [] := List.isEmpty_iff.1 okl
      exact hL [] (by simp [zXs]) (by simp [gXs]) 0 false false (by simp [okXs]) _ _ _ bH hH
  have nth : isNth k = true ↔ k = 9 ∨ k = 10 := by unfold isNth; simp
  refine w_fad rfl ?_
  refine w_load rfl hX rfl ?_
  refine a_not rfl ?_
  refine w_let ?_
  by_cases hfr : frst k a bb w = true
  · have hfr0 := hfr
    simp only [frst, Bool.and_eq_true, Bool.not_eq_true', decide_eq_true_eq] at hfr
    obtain ⟨⟨⟨hn9, rfl⟩, rfl⟩, rfl⟩ := hfr
    have h910 := nth.1 hn9
    have hfc := fcL_len (k - 9).toNat
    refine a_guard1 rfl rfl ?_
    refine w_fad rfl ?_
    refine w_loadA rfl hX (Nat.le_of_ble_eq_true rfl) ?_
    refine a_build rfl ?_
    refine a_eqA rfl rfl rfl ?_
    refine w_and ?_
    refine w_pick_t rfl ?_
    refine w_let ?_
    refine a_guard1 rfl rfl ?_
    refine w_fad rfl ?_
    refine w_load rfl hX rfl ?_
    refine a_leq rfl rfl ?_
    refine w_and ?_
    refine w_pick_t rfl ?_
    refine a_cond1 rfl (decide_eq_true (by omega)) ?_
    refine w_nilF rfl ?_
    refine w_fad rfl ?_
    refine a_build rfl ?_
    refine w_fad rfl ?_
    refine w_load rfl hX rfl ?_
    refine a_subU (by decide) rfl rfl (subU8 k 9 (by omega) (by omega) (by omega)) ?_
    refine a_idxA rfl rfl (by omega) (kdFc (k - 9).toNat (by omega)) ?_
    refine k_ws b2 g2 (fcL.getD (k - 9).toNat []) (by omega) rfl fun _ H b3 f3 => ?_
    exact done (by rw [txS_frst _ _ _ _ _ (by omega) hfr0]) b3 f3
  have hj : (k - 4).toNat ≤ 10 := by omega
  have hnl := nms_len (k - 4).toNat
  cases w
  case' true =>
    refine a_guard0 rfl rfl ?_
    refine w_and ?_
    refine w_pick_f rfl ?_
    refine w_let ?_
    refine a_guard0 rfl rfl ?_
    refine w_and ?_
    refine w_pick_f rfl ?_
    refine a_cond0 rfl rfl ?_
  case' false =>
    have he : (decide (a = 0) && (decide (bb = 1) && true)) = false := by
      by_cases hn9 : isNth k = true
      · simp only [frst, hn9, Bool.not_false, Bool.true_and, Bool.and_true] at hfr
        simpa using hfr
      · rw [if_neg hn9] at ha
        simp only [Bool.and_eq_true, decide_eq_true_eq] at ha
        simp; omega
    refine a_guard1 rfl rfl ?_
    refine w_fad rfl ?_
    refine w_loadA rfl hX (Nat.le_of_ble_eq_true rfl) ?_
    refine a_build rfl ?_
    refine a_eqA rfl rfl rfl ?_
    refine w_and ?_
    refine w_pick_t rfl ?_
    refine w_let ?_
    refine a_guard0 rfl he ?_
    refine w_and ?_
    refine w_pick_f rfl ?_
    refine a_cond0 rfl rfl ?_
  all_goals
    refine w_nilF rfl ?_
    refine w_fad rfl ?_
    refine w_callQ rfl (by kernel_rfl) con_names ?_
    refine w_fad rfl ?_
    refine w_load rfl hX rfl ?_
    refine a_subU (by decide) rfl rfl (subU8 k 4 (by omega) (by omega) (by omega)) ?_
    refine a_idxU rfl rfl (nms_at _ hj) ?_
    refine w_loadI rfl ?_
    refine a_addS rfl rfl rfl (by rw [List.length_append]; unfold maxLen; simp only [List.length_cons, List.length_nil]; omega) ?_
    refine k_ws b2 g2 _ (by simp only [List.length_append, List.length_cons, List.length_nil] at *; omega) rfl fun _ H b3 f3 => ?_
    refine w_fad rfl ?_
    refine w_load rfl (f3.blk hX (by omega)) rfl ?_
    refine a_leq rfl rfl ?_
    refine a_cond rfl (fun e8 => ?_) fun e8 => ?_
    · have e8 := of_decide_eq_true e8
      exact done (by rw [txS_bare _ _ _ _ _ _ _ _ (by omega) e8, kd_bare _ (by omega)]) b3 f3
    have e8 := of_decide_eq_false e8
    refine w_nilF rfl ?_
    refine w_fad rfl ?_
    refine k_wb b3 f3 40 (by simp only [List.length_append, List.length_cons, List.length_nil] at *; omega) rfl fun _ H b4 f4 => ?_
    refine w_let ?_
    refine w_fad rfl ?_
    refine w_load rfl (f4.blk hX (by omega)) rfl ?_
    refine a_leq rfl rfl ?_
    refine a_cond rfl (fun e10 => ?_) fun e10 => ?_
    · have e10 := of_decide_eq_true e10
      have hn9 : isNth k = true := nth.2 (by omega)
      have hab : okN a = true ∧ okN bb = true := by
        rw [if_pos hn9, Bool.and_eq_true] at ha
        rw [okN_is, okN_is]; exact ha
      have hal := anbT_len a bb hab.1 hab.2
      have hfr : frst k a bb _ = false := Bool.eq_false_iff.2 hfr
      refine w_fad rfl ?_
      refine w_loadA rfl (f4.blk hX (by omega)) (Nat.le_of_ble_eq_true rfl) ?_
      refine iCall_con (by kernel_rfl) (con_text a bb hab.1 hab.2) ?_
      refine a_extr rfl rfl ?_
      refine a_extr rfl rfl ?_
      refine w_nilF rfl ?_
      refine w_fad rfl ?_
      refine k_ws b4 f4 (anbT a bb) (by simp only [List.length_append, List.length_cons, List.length_nil] at *; omega) rfl fun _ H b5 f5 => ?_
      refine w_fad rfl ?_
      refine w_load rfl (f5.blk hX (by omega)) rfl ?_
      first
        | refine a_cond0 rfl rfl ?_
          refine w_and ?_
          refine w_fad rfl ?_
          refine w_load rfl (f5.blk hX (by omega)) rfl ?_
          refine a_acall (by kernel_rfl) rfl (hlist b5 (by simp only [List.length_append, List.length_cons, List.length_nil] at *; omega)) ?_
          rintro _ H ⟨rfl, b8, f8⟩
          have f8 := f5.trans f8
          refine w_nilF rfl ?_
          refine w_fad rfl ?_
          refine k_wb b8 f8 41 (by have := hwl; simp only [List.length_append, List.length_cons, List.length_nil] at *; omega) rfl fun _ H b9 f9 => ?_
          exact done (by rw [txS_nth _ _ _ _ _ _ (by omega) hfr hn9 hab, kd_par _ (by omega) (by omega)]; simp) b9 f9
        | refine a_cond1 rfl rfl ?_
          refine w_nilF rfl ?_
          refine w_fad rfl ?_
          refine k_ws b5 f5 [32, 111, 102, 32] (by simp only [List.length_append, List.length_cons, List.length_nil] at *; omega) rfl fun _ H b6 f6 => ?_
          refine w_and ?_
          refine w_fad rfl ?_
          refine w_load rfl (f6.blk hX (by omega)) rfl ?_
          refine a_acall (by kernel_rfl) rfl (hlist b6 (by simp only [List.length_append, List.length_cons, List.length_nil] at *; omega)) ?_
          rintro _ H ⟨rfl, b8, f8⟩
          have f8 := f6.trans f8
          refine w_nilF rfl ?_
          refine w_fad rfl ?_
          refine k_wb b8 f8 41 (by have := hwl; simp only [List.length_append, List.length_cons, List.length_nil] at *; omega) rfl fun _ H b9 f9 => ?_
          exact done (by rw [txS_nth _ _ _ _ _ _ (by omega) hfr hn9 hab, kd_par _ (by omega) (by omega)]; simp) b9 f9
    · have e10 := of_decide_eq_false e10
      refine w_and ?_
      refine w_fad rfl ?_
      refine w_load rfl (f4.blk hX (by omega)) rfl ?_
      refine a_acall (by kernel_rfl) rfl (hlist b4 (by simp only [List.length_append, List.length_cons, List.length_nil] at *; omega)) ?_
      rintro _ H ⟨rfl, b8, f8⟩
      have f8 := f4.trans f8
      refine w_nilF rfl ?_
      refine w_fad rfl ?_
      refine k_wb b8 f8 41 (by have := hwl; simp only [List.length_append, List.length_cons, List.length_nil] at *; omega) rfl fun _ H b9 f9 => ?_
      exact done (by rw [txS_lst _ _ _ _ _ _ _ _ (by omega), kd_par _ (by omega) (by omega)]; simp) b9 f9
end Go.Proofs.YthblflmjingcfaaGreatDoor
end

section
namespace Go.Proofs.YthblflmjingcfaaGreatDoor
open Go Go.Aw Go.Sel
set_option maxRecDepth 100000
theorem w_joinE {k : (List AV → Heap → Prop) → Prop} {f : List AV → Heap → Prop} (s : List AV) (R : Heap → Prop) (hk : ∀ F : List AV → Heap → Prop, (∀ H, R H → F s H) → k F) (q : ∀ H, R H → f s H) : iLet k f := hk f q
theorem w_put {H : Heap} {ty sz : Nat} {z v : AV} {zs cs : List AV} {K : AV → Heap → Prop} (hz : vcells z = zs) (hzs : zs.all scal = true) (hv : vcells v = cs) (hl : zs.length = sz) (hc : cs.length = sz) (hs : cs.all scal = true) (q : K (.op H.length 0) (H ++ [.blk ⟨ty, cs, true⟩])) :
    iNew ty z H fun v1 g => iStore sz v1 v g fun g2 => K v1 g2 := by
  refine n_new (h' := H ++ [.blk ⟨ty, zs, true⟩]) (n := H.length) (cs := zs) hz hzs rfl rfl ?_
  refine n_store (b := ⟨ty, zs, true⟩) (cs := cs) (h' := H ++ [.blk ⟨ty, cs, true⟩]) rfl (by simp) rfl hv (show 0 + cs.length ≤ zs.length by omega) hc hs ?_ q
  have e : setAll zs 0 cs = cs := setAll_all (by omega)
  rw [List.set_append_right _ _ (Nat.le_refl _), Nat.sub_self]
  simp only [e]
  rfl
theorem mkA (o : Nat) (h : o ≤ 4) : ([.str [], .str [32], .str [32, 62, 32], .str [32, 43, 32], .str [32, 126, 32]] : List AV)[0 + o * 1]? = some (.str (mkL.getD o [])) := by
  match o, h with
  | 0, _ | 1, _ | 2, _ | 3, _ | 4, _ => rfl
theorem a_idxQn {len sz id o : Nat} {x i : AV} {K : AV → Prop} {k : IntKind} {n : Nat} (ex : x = .op id o) (ei : i = .v (.int k n)) (hn : n < len) (q : K (.op id (o + n * sz))) : iIdxQ len sz x i K := by
  subst ex; subst ei
  exact ⟨⟨by omega, by omega⟩, by rw [Int.toNat_natCast]; exact q⟩
theorem zXt {l : List Cx} {i : Nat} {x : Cx} (h : l[i]? = some x) : zXs (l.take i) + zX x ≤ zXs l := by
  induction l generalizing i with
  | nil => simp at h
  | cons a l ih =>
    rw [zXs]
    cases i with
    | zero => simp at h; subst h; simp [zXs]
    | succ i => have := ih (i := i) (by simpa using h); rw [List.take_succ_cons, zXs]; omega
theorem txXst (l : List Cx) (i : Nat) : lenS ((txXs l).take i) ≤ 100 * zXs (l.take i) := by
  have := txXs_len (l.take i)
  rwa [txXs_map, ← List.map_take, ← txXs_map]
theorem zPt {l : List Cp} {i : Nat} {x : Cp} (h : l[i]? = some x) : zPs (l.take i) + zP x ≤ zPs l := by
  induction l generalizing i with
  | nil => simp at h
  | cons a l ih =>
    rw [zPs]
    cases i with
    | zero => simp at h; subst h; simp [zPs]
    | succ i => have := ih (i := i) (by simpa using h); rw [List.take_succ_cons, zPs]; omega
theorem txPst (l : List Cp) (i : Nat) : lenS ((txPs l).take i) ≤ 100 * zPs (l.take i) := by
  have := txPs_len (l.take i)
  rwa [txPs_map, ← List.map_take, ← txPs_map]
theorem zSt {l : List Sm} {i : Nat} {x : Sm} (h : l[i]? = some x) : zSs (l.take i) + zS x ≤ zSs l := by
  induction l generalizing i with
  | nil => simp at h
  | cons a l ih =>
    rw [zSs]
    cases i with
    | zero => simp at h; subst h; simp [zSs]
    | succ i => have := ih (i := i) (by simpa using h); rw [List.take_succ_cons, zSs]; omega
theorem txSst (l : List Sm) (i : Nat) : lenS ((txSs l).take i) ≤ 100 * zSs (l.take i) := by
  have := txSs_len (l.take i)
  rwa [txSs_map, ← List.map_take, ← txSs_map]
theorem tagT_nil : nmT [] = [] := rfl
variable [MaxL]
theorem wsL_of {n : Nat} (hn : n ≤ 2 ^ 28) (hS : WsS n) : WsL n := by
  intro l hz hg d has rel ok id h t b hb
  rw [gXs_all] at hg
  rw [okXs_all] at ok
  have hxs := txXs_len l
  have hlen : (txXs l).length = l.length := by rw [txXs_map, List.length_map]
  have hid : id < h.length := by obtain ⟨x, h1, _⟩ := b; exact tok_lt h1
  refine (V19 _ _).acall ?_
  unfold W19
  refine a_len (n := l.length) rfl (by simp [encXs_map]) fun hml => ?_
  refine iLoop_of (α := Nat × Heap) (fun p => p.1 ≤ l.length ∧ Bl id p.2 (t ++ joinK sepC (txXs l) p.1) ∧ Fr id h p.2) (fun p => [int p.1]) (fun p => p.2) (fun p => l.length - p.1) (0, h) ⟨by simp, by simpa [joinK] using b, Fr.refl _ _⟩ (Wk.refl _ _ _ (Nat.le_refl _)) ?_
  rintro ⟨i, H⟩ ⟨hi, bH, fH⟩
  simp only at hi bH fH
  have hji : (joinK sepC (txXs l) i).length ≤ 100 * zXs (l.take i) := Nat.le_trans (joinK_len sepC_len (txXs l) i (by omega)) (txXst l i)
  by_cases q : i < l.length
  · obtain ⟨x, hx⟩ : ∃ x, l[i]? = some x := ⟨l[i], List.getElem?_eq_getElem q⟩
    obtain ⟨ld, ps, cs⟩ := x
    have okx := all_at ok hx
    have gx := all_at hg hx
    have zx := zXt hx
    rw [okX] at okx
    rw [gX, gPs_all] at gx
    rw [zX] at zx
    simp only [Bool.and_eq_true, decide_eq_true_eq] at okx
    obtain ⟨⟨⟨⟨⟨_, okl⟩, okc⟩, okp⟩, okcs⟩, okps⟩ := okx
    rw [okPs_all] at okps
    have hps := txPs_len ps
    have hpl : (txPs ps).length = ps.length := by rw [txPs_map, List.length_map]
    have hs3 := sepC_len i
    have hin : inI ((i : Int) + 1) := by unfold inI maxLen at *; omega
    have hidH : id < H.length := Nat.lt_of_lt_of_le hid fH.1
    refine a_lss rfl rfl ?_
    refine a_cond1 rfl (decide_eq_true (by omega)) ?_
    refine a_idxN rfl (encXs_map l) rfl rfl hx ?_
    refine a_loadAI rfl rfl ?_
    refine w_put (zs := [u8 0, .v (.slice none 0 0), .v (.slice none 0 0)]) (cs := [u1 ld, .sl 2 (encPs ps), .sl 1 (cs.map fun c => [u1 c])]) rfl rfl rfl rfl rfl rfl ?_
    have hV8 : (H ++ [Ent.blk ⟨42, [u1 ld, .sl 2 (encPs ps), .sl 1 (cs.map fun c => [u1 c])], true⟩])[H.length]? = some (.blk ⟨42, [u1 ld, .sl 2 (encPs ps), .sl 1 (cs.map fun c => [u1 c])], true⟩) := by simp
    have b1 := bH.app [Ent.blk ⟨42, [u1 ld, .sl 2 (encPs ps), .sl 1 (cs.map fun c => [u1 c])], true⟩]
    have f1 := fH.trans (Fr.app id H [Ent.blk ⟨42, [u1 ld, .sl 2 (encPs ps), .sl 1 (cs.map fun c => [u1 c])], true⟩])
    generalize H ++ [Ent.blk ⟨42, [u1 ld, .sl 2 (encPs ps), .sl 1 (cs.map fun c => [u1 c])], true⟩] = H1 at hV8 b1 f1 ⊢
    refine w_joinE [] (fun H' => Bl id H' (t ++ joinK sepC (txXs l) i ++ sepC i) ∧ Fr id H1 H') (fun F hF => ?_) ?_
    · refine a_gtr rfl rfl ?_
      refine a_cond rfl (fun e => ?_) fun e => ?_
      · have e : i ≠ 0 := by have := of_decide_eq_true e; omega
        refine w_nilF rfl ?_
        refine w_fad rfl ?_
        refine k_ws b1 (Fr.refl _ _) [44, 32] (by simp only [List.length_append, List.length_cons, List.length_nil]; omega) rfl fun _ H' b' f' => ?_
        refine w_and ?_
        refine hF H' ⟨?_, f'⟩
        rw [sepC, if_neg e]; exact b'
      · have e : i = 0 := by have := of_decide_eq_false e; omega
        refine w_and ?_
        refine hF H1 ⟨?_, Fr.refl _ _⟩
        rw [sepC, if_pos e, List.append_nil]; exact b1
    rintro H2 ⟨b2, f2⟩
    have hV8 := f2.blk hV8 (by omega)
    have f2 := f1.trans f2
    refine a_build rfl ?_
    refine w_put (zs := [.str [], .str [], .str [], .str [], .str []]) (cs := [.str [], .str [32], .str [32, 62, 32], .str [32, 43, 32], .str [32, 126, 32]]) rfl rfl rfl rfl rfl rfl ?_
    have hidH2 : id < H2.length := Nat.lt_of_lt_of_le hid f2.1
    have hV20 : (H2 ++ [Ent.blk ⟨82, [.str [], .str [32], .str [32, 62, 32], .str [32, 43, 32], .str [32, 126, 32]], true⟩])[H2.length]? = some (.blk ⟨82, [.str [], .str [32], .str [32, 62, 32], .str [32, 43, 32], .str [32, 126, 32]], true⟩) := by simp
    have b3 := b2.app [Ent.blk ⟨82, [.str [], .str [32], .str [32, 62, 32], .str [32, 43, 32], .str [32, 126, 32]], true⟩]
    have f3 := f2.trans (Fr.app id H2 [Ent.blk ⟨82, [.str [], .str [32], .str [32, 62, 32], .str [32, 43, 32], .str [32, 126, 32]], true⟩])
    have hV8 := (Fr.app id H2 [Ent.blk ⟨82, [.str [], .str [32], .str [32, 62, 32], .str [32, 43, 32], .str [32, 126, 32]], true⟩]).blk hV8 (by omega)
    generalize H2 ++ [Ent.blk ⟨82, [.str [], .str [32], .str [32, 62, 32], .str [32, 43, 32], .str [32, 126, 32]], true⟩] = H3 at hV8 hV20 b3 f3 ⊢
    have hld := mkL_len ld.toNat
    refine w_joinE [] (fun H' => Bl id H' (t ++ joinK sepC (txXs l) i ++ sepC i ++ (if 1 < ld then (mkL.getD ld.toNat []).drop 1 else [])) ∧ Fr id H3 H') (fun F hF => ?_) ?_
    · refine w_fad rfl ?_
      refine w_load rfl hV8 rfl ?_
      refine a_gtr rfl rfl ?_
      refine a_cond rfl (fun e => ?_) fun e => ?_
      · have e : 1 < ld := by simpa using e
        obtain ⟨c, rfl⟩ := Int.eq_ofNat_of_zero_le (show 0 ≤ ld by omega)
        refine w_nilF rfl ?_
        refine w_fad rfl ?_
        refine w_fad rfl ?_
        refine w_load rfl hV8 rfl ?_
        refine a_idxQn (n := c) rfl rfl (by omega) ?_
        refine w_load rfl hV20 (mkA c (by omega)) ?_
        have hmk : 1 ≤ (mkL.getD c []).length := by
          match c, e, okl with
          | 2, _, _ | 3, _, _ | 4, _, _ => decide
          | 0, h, _ | 1, h, _ => exact absurd h (by decide)
          | c + 5, _, h => exact absurd h (by omega)
        refine a_slS (a := 1) (b := (mkL.getD c []).length) rfl rfl rfl hmk (Nat.le_refl _) (by rw [List.take_length]) ?_
        refine k_ws b3 (Fr.refl _ _) _ (by simp only [List.length_append, List.length_drop, Int.toNat_natCast] at *; omega) rfl fun _ H' b' f' => ?_
        refine w_and ?_
        refine hF H' ⟨?_, f'⟩
        rw [if_pos e]; exact b'
      · have e : ¬ 1 < ld := by simpa using e
        refine w_and ?_
        refine hF H3 ⟨?_, Fr.refl _ _⟩
        rw [if_neg e, List.append_nil]; exact b3
    rintro H4 ⟨b4, f34⟩
    have hA : (t ++ joinK sepC (txXs l) i ++ sepC i ++ (if 1 < ld then (mkL.getD ld.toNat []).drop 1 else [])).length ≤ t.length + 100 * zXs (l.take i) + 6 := by
      rw [List.length_append, List.length_append, List.length_append]
      split
      · rw [List.length_drop]; omega
      · simp only [List.length_nil]; omega
    have hfin : t ++ joinK sepC (txXs l) (i + 1) = (t ++ joinK sepC (txXs l) i ++ sepC i ++ (if 1 < ld then (mkL.getD ld.toNat []).drop 1 else [])) ++ joinL (sepP cs) (txPs ps) := by
      have : (txXs l).getD i [] = txX (.mk ld ps cs) := by rw [txXs_map, List.getD_eq_getElem?_getD, List.getElem?_map, hx]; rfl
      rw [joinK_next, this, txX]
      simp only [List.append_assoc]
    generalize t ++ joinK sepC (txXs l) i ++ sepC i ++ (if 1 < ld then (mkL.getD ld.toNat []).drop 1 else []) = A at b4 hA hfin
    have hV8 := f34.blk hV8 (by omega)
    have hV20 := f34.blk hV20 (by omega)
    have f4 := f3.trans f34
    refine w_fad rfl ?_
    refine w_load rfl hV8 rfl ?_
    refine a_len (n := ps.length) rfl (by simp [encPs_map]) fun hpm => ?_
    refine iLoop_of (α := Nat × Heap) (fun p => p.1 ≤ ps.length ∧ Bl id p.2 (A ++ joinK (sepP cs) (txPs ps) p.1) ∧ Fr id H4 p.2) (fun p => [int p.1]) (fun p => p.2) (fun p => ps.length - p.1) (0, H4) ⟨by simp, by simpa [joinK] using b4, Fr.refl _ _⟩ (Wk.refl _ _ _ (Nat.le_refl _)) ?_
    rintro ⟨k, H⟩ ⟨hk, bK, fK⟩
    simp only at hk bK fK
    have hjk : (joinK (sepP cs) (txPs ps) k).length ≤ 100 * zPs (ps.take k) := Nat.le_trans (joinK_len (sepP_len cs) (txPs ps) k (by omega)) (txPst ps k)
    refine a_lss rfl rfl ?_
    by_cases q2 : k < ps.length
    · obtain ⟨p, hp⟩ : ∃ p, ps[k]? = some p := ⟨ps[k], List.getElem?_eq_getElem q2⟩
      obtain ⟨tg, ss⟩ := p
      have okp2 := all_at okps hp
      have gp := all_at gx hp
      have zp := zPt hp
      rw [okP] at okp2
      rw [gP, gSs_all] at gp
      rw [zP] at zp
      simp only [Bool.and_eq_true] at okp2
      have okss := okp2.2
      have oktg := okp2.1.1.1
      rw [okSs_all] at okss
      have hss := txSs_len ss
      have hsl : (txSs ss).length = ss.length := by rw [txSs_map, List.length_map]
      have hin2 : inI ((k : Int) + 1) := by unfold inI maxLen at *; omega
      have hin3 : inI ((k : Int) - 1) := by unfold inI maxLen at *; omega
      have hsp := sepP_len cs k
      have hnm := nmT_len tg
      have hV8k := fK.blk hV8 (by omega)
      have hV20k := fK.blk hV20 (by omega)
      refine a_cond1 rfl (decide_eq_true (by omega)) ?_
      refine a_idxN rfl (encPs_map ps) rfl rfl hp ?_
      refine a_loadAI rfl rfl ?_
      refine w_put (zs := [.str [], .v (.slice none 0 0)]) (cs := [.str tg, .sl 9 (encSs ss)]) rfl rfl rfl rfl rfl rfl ?_
      have hidK : id < H.length := Nat.lt_of_lt_of_le (Nat.lt_of_lt_of_le hid f4.1) fK.1
      have hV47 : (H ++ [Ent.blk ⟨49, [.str tg, .sl 9 (encSs ss)], true⟩])[H.length]? = some (.blk ⟨49, [.str tg, .sl 9 (encSs ss)], true⟩) := by simp
      have b5 := bK.app [Ent.blk ⟨49, [.str tg, .sl 9 (encSs ss)], true⟩]
      have fa := Fr.app id H [Ent.blk ⟨49, [.str tg, .sl 9 (encSs ss)], true⟩]
      have f5 := fK.trans fa
      have hV8k := fa.blk hV8k (by omega)
      have hV20k := fa.blk hV20k (by omega)
      generalize H ++ [Ent.blk ⟨49, [.str tg, .sl 9 (encSs ss)], true⟩] = H5 at hV47 b5 f5 hV8k hV20k ⊢
      refine w_joinE [] (fun H' => Bl id H' (A ++ joinK (sepP cs) (txPs ps) k ++ sepP cs k) ∧ Fr id H5 H') (fun F hF => ?_) ?_
      · refine a_gtr rfl rfl ?_
        refine a_cond rfl (fun e => ?_) fun e => ?_
        · have e : k ≠ 0 := by have := of_decide_eq_true e; omega
          obtain ⟨c, hc⟩ : ∃ c, cs[k - 1]? = some c := ⟨cs[k - 1]'(by omega), List.getElem?_eq_getElem (by omega)⟩
          have hc14 := all_at okcs hc
          simp only [decide_eq_true_eq] at hc14
          obtain ⟨c', rfl⟩ := Int.eq_ofNat_of_zero_le (show 0 ≤ c by omega)
          refine w_nilF rfl ?_
          refine w_fad rfl ?_
          refine w_fad rfl ?_
          refine w_load rfl hV8k rfl ?_
          refine w_sub rfl rfl hin3 ?_
          refine a_idxN (n := k - 1) rfl rfl rfl (by omega) hc ?_
          refine w_loadI rfl ?_
          refine a_idxQn (n := c') rfl rfl (by omega) ?_
          refine w_load rfl hV20k (mkA c' (by omega)) ?_
          have es : sepP cs k = mkL.getD c' [] := by
            have : cs.getD (k - 1) 0 = ((c' : Nat) : Int) := by rw [List.getD_eq_getElem?_getD, hc]; rfl
            rw [sepP, if_neg e, this]; rfl
          rw [es] at hF hsp
          refine k_ws b5 (Fr.refl _ _) _ (by rw [List.length_append]; omega) rfl fun _ H' b' f' => ?_
          refine w_and ?_
          exact hF H' ⟨b', f'⟩
        · have e : k = 0 := by have := of_decide_eq_false e; omega
          refine w_and ?_
          refine hF H5 ⟨?_, Fr.refl _ _⟩
          rw [sepP, if_pos e, List.append_nil]; exact b5
      rintro H6 ⟨b6, f56⟩
      have hV47 := f56.blk hV47 (by omega)
      have f6 := f5.trans f56
      refine w_joinE [] (fun H' => Bl id H' (A ++ joinK (sepP cs) (txPs ps) k ++ sepP cs k ++ (if tg = [42] then [42] else nmT tg)) ∧ Fr id H6 H') (fun F hF => ?_) ?_
      · refine w_fad rfl ?_
        refine w_load rfl hV47 rfl ?_
        refine a_eqlS rfl rfl ?_
        refine a_cond rfl (fun e0 => ?_) fun e0 => ?_
        · have e0 := of_decide_eq_true e0
          subst e0
          refine w_and ?_
          refine hF H6 ⟨?_, Fr.refl _ _⟩
          rw [if_neg (by decide), tagT_nil, List.append_nil]; exact b6
        · have e0 := of_decide_eq_false e0
          refine a_eqlS rfl rfl ?_
          refine a_cond rfl (fun e => ?_) fun e => ?_
          · have e := of_decide_eq_true e
            refine w_nilF rfl ?_
            refine w_fad rfl ?_
            refine k_wb b6 (Fr.refl _ _) 42 (by rw [List.length_append, List.length_append]; omega) rfl fun _ H' b' f' => ?_
            refine w_and ?_
            refine hF H' ⟨?_, f'⟩
            rw [if_pos e]; exact b'
          · have e := of_decide_eq_false e
            have hsm : small tg = true := by
              rw [Bool.or_eq_true, Bool.or_eq_true, decide_eq_true_eq, decide_eq_true_eq] at oktg
              rcases oktg with (h | h) | h
              · exact absurd h e0
              · exact absurd h e
              · exact h
            rw [small, Bool.and_eq_true] at hsm
            have hnm2 := named_iff hsm.1
            have e1 : oneT 1 tg = nmT tg := by simp [oneT]
            refine w_fad rfl ?_
            refine w_load rfl hV47 rfl ?_
            refine a_build rfl ?_
            refine k_tok b6 (Fr.refl _ _) 1 tg false (.inl ⟨rfl, rfl, e0⟩) hnm2.2 (by omega) (by rw [e1, List.length_append, List.length_append]; omega) rfl fun _ H' b' f' => ?_
            refine w_and ?_
            refine hF H' ⟨?_, f'⟩
            rw [if_neg e, ← e1]; exact b'
      rintro H7 ⟨b7, f67⟩
      have hV47 := f67.blk hV47 (by omega)
      have f7 := f6.trans f67
      have hB : (A ++ joinK (sepP cs) (txPs ps) k ++ sepP cs k ++ (if tg = [42] then [42] else nmT tg)).length ≤ t.length + 100 * zXs (l.take i) + 100 * zPs (ps.take k) + 10 + 4 * tg.length := by
        rw [List.length_append, List.length_append, List.length_append]
        split
        · simp only [List.length_cons, List.length_nil]; omega
        · omega
      have hfin2 : A ++ joinK (sepP cs) (txPs ps) (k + 1) = (A ++ joinK (sepP cs) (txPs ps) k ++ sepP cs k ++ (if tg = [42] then [42] else nmT tg)) ++ (txSs ss).flatten := by
        have : (txPs ps).getD k [] = txP (.mk tg ss) := by rw [txPs_map, List.getD_eq_getElem?_getD, List.getElem?_map, hp]; rfl
        rw [joinK_next, this, txP]
        simp only [List.append_assoc]
      generalize A ++ joinK (sepP cs) (txPs ps) k ++ sepP cs k ++ (if tg = [42] then [42] else nmT tg) = B at hB hfin2 b7
      refine w_fad rfl ?_
      refine w_load rfl hV47 rfl ?_
      refine a_len (n := ss.length) rfl (by simp [encSs_map]) fun hsm => ?_
      refine iLoop_of (α := Nat × Heap) (fun p => p.1 ≤ ss.length ∧ Bl id p.2 (B ++ ((txSs ss).take p.1).flatten) ∧ Fr id H7 p.2) (fun p => [int p.1]) (fun p => p.2) (fun p => ss.length - p.1) (0, H7) ⟨by simp, by simpa using b7, Fr.refl _ _⟩ (Wk.refl _ _ _ (Nat.le_refl _)) ?_
      rintro ⟨m, H⟩ ⟨hm, bM, fM⟩
      simp only at hm bM fM
      have hfm : (((txSs ss).take m).flatten).length ≤ 100 * zSs (ss.take m) := Nat.le_trans (flat_len _) (txSst ss m)
      refine a_lss rfl rfl ?_
      by_cases q3 : m < ss.length
      · obtain ⟨y, hy⟩ : ∃ y, ss[m]? = some y := ⟨ss[m], List.getElem?_eq_getElem q3⟩
        have oky := all_at okss hy
        have gy := all_at gp hy
        have zy := zSt hy
        have hin4 : inI ((m : Int) + 1) := by unfold inI maxLen at *; omega
        refine a_cond1 rfl (decide_eq_true (by omega)) ?_
        refine a_idxN rfl (encSs_map ss) rfl rfl hy ?_
        refine a_loadAI rfl (by cases y; rfl) ?_
        refine w_put (zs := [u8 0, .str [], u8 0, .str [], ff, int 0, int 0, ff, .v (.slice none 0 0)]) (cs := encS y) rfl rfl rfl rfl (by cases y; rfl) (by cases y; rfl) ?_
        refine w_loadA (b := ⟨53, encS y, true⟩) rfl (by simp) (by cases y; exact Nat.le_refl _) ?_
        have e9 : (List.drop 0 (encS y)).take 9 = encS y := by cases y; rfl
        have fb := Fr.app id H [Ent.blk ⟨53, encS y, true⟩]
        refine a_acall (by kernel_rfl) (by simp only [e9]) (hS y (by omega) gy d has oky id _ _ (bM.app _) (by rw [List.length_append]; omega)) ?_
        rintro _ H' ⟨rfl, b', f'⟩
        refine w_add rfl rfl hin4 ?_
        refine And.intro rfl ?_
        have fE := fM.trans (fb.trans f')
        refine ⟨(m + 1, H'), ⟨by simp only; omega, ?_, fE⟩, Wk.refl _ _ _ fE.1, by simp only; omega⟩
        have ey : (txSs ss)[m]? = some (txS y) := by rw [txSs_map, List.getElem?_map, hy]; rfl
        simp only
        rw [List.take_add_one, ey, List.flatten_append]
        simp only [Option.toList_some, List.flatten_cons, List.flatten_nil, List.append_nil, ← List.append_assoc]
        exact b'
      · obtain rfl : m = ss.length := by omega
        refine a_cond0 rfl (decide_eq_false (by omega)) ?_
        refine w_add rfl rfl hin2 ?_
        refine And.intro rfl ?_
        have fE := f7.trans fM
        refine ⟨(k + 1, H), ⟨by simp only; omega, ?_, fE⟩, Wk.refl _ _ _ fE.1, by simp only; omega⟩
        simp only
        rw [hfin2]
        have e3 : (txSs ss).take ss.length = txSs ss := by rw [← hsl, List.take_length]
        rw [e3] at bM
        exact bM
    · obtain rfl : k = ps.length := by omega
      refine a_cond0 rfl (decide_eq_false (by omega)) ?_
      refine w_add rfl rfl hin ?_
      refine And.intro rfl ?_
      have fE := f4.trans fK
      refine ⟨(i + 1, H), ⟨by simp only; omega, ?_, fE⟩, Wk.refl _ _ _ fE.1, by simp only; omega⟩
      rw [hfin, joinL, hpl]
      exact bK
  · obtain rfl : i = l.length := by omega
    refine a_lss rfl rfl ?_
    refine a_cond0 rfl (decide_eq_false (by omega)) ?_
    refine ⟨_, _, Wk.refl _ _ _ fH.1, rfl, ?_, fH⟩
    rw [wrL, joinL, hlen]
    exact bH
end Go.Proofs.YthblflmjingcfaaGreatDoor
end

section
namespace Go.Proofs.YthblflmjingcfaaGreatDoor
open Go Go.Aw Go.Sel
set_option maxRecDepth 100000
theorem nmT_ne {s : Str} (h : s ≠ []) : 1 ≤ (nmT s).length := by
  obtain ⟨n, hn⟩ : ∃ n, s.length = n + 1 := by
    cases s with
    | nil => exact absurd rfl h
    | cons a r => exact ⟨r.length, rfl⟩
  unfold nmT
  rw [hn, nmK_next, List.length_append]
  have : 1 ≤ (nmP s (fstN s) n (s.getD n 0)).length := by
    unfold nmP escB
    split
    · simp
    · split <;> simp
  omega
theorem joinK_pos (sep : Nat → Str) (a : Str) (r : List Str) : ∀ k, 0 < k → a.length ≤ (joinK sep (a :: r) k).length
  | 0, h => absurd h (by omega)
  | k + 1, _ => by
    rw [joinK_next, List.length_append]
    by_cases e : k = 0
    · subst e; simp only [List.getD_cons_zero, List.length_append]; omega
    · have := joinK_pos sep a r k (by omega); omega
theorem joinL_pos (sep : Nat → Str) (a : Str) (r : List Str) : a.length ≤ (joinL sep (a :: r)).length := joinK_pos sep a r _ (by simp)
theorem txS_ne {d : Nat} {has : Bool} {s : Sm} (ok : okS d has s = true) : 1 ≤ (txS s).length := by
  obtain ⟨k, na, o, v, f, a, b, w, l⟩ := s
  rw [okS, Bool.and_eq_true] at ok
  obtain ⟨ok, _⟩ := ok
  rw [txS]
  by_cases h1 : k = 1
  · rw [if_pos h1]; simp
  rw [if_neg h1]
  by_cases h2 : k = 2
  · rw [if_pos h2]; simp
  rw [if_neg h2]
  by_cases h3 : k = 3
  · rw [if_pos h3]; simp [atT]
  rw [if_neg h3]
  rw [bareOK, if_neg (by omega), if_neg h3] at ok
  simp only [Bool.and_eq_true, decide_eq_true_eq] at ok
  have hk := ok.1.2
  have hkd : ∀ j : Nat, j ≤ 10 → 1 ≤ (kdL.getD j []).length := fun j hj => by
    match j, hj with
    | 0, _ | 1, _ | 2, _ | 3, _ | 4, _ | 5, _ | 6, _ | 7, _ | 8, _ | 9, _ | 10, _ => decide
  have hfc : ∀ j : Nat, j ≤ 1 → 1 ≤ (fcL.getD j []).length := fun j hj => by
    match j, hj with
    | 0, _ | 1, _ => decide
  split
  · rename_i hf
    simp only [frst, Bool.and_eq_true, isNth, Bool.or_eq_true, decide_eq_true_eq] at hf
    exact hfc _ (by omega)
  · have := hkd (k - 4).toNat (by omega)
    split
    · exact this
    · simp only [List.length_append]; omega
theorem txP_ne {d : Nat} {has : Bool} {p : Cp} (ok : okP d has p = true) : 1 ≤ (txP p).length := by
  obtain ⟨t, ss⟩ := p
  rw [okP] at ok
  simp only [Bool.and_eq_true, Bool.not_eq_true', Bool.and_eq_false_iff, decide_eq_false_iff_not] at ok
  rw [txP, List.length_append]
  by_cases ht : t = []
  · rcases ok.1.2 with h | h
    · exact absurd ht h
    · cases ss with
      | nil => simp at h
      | cons s r =>
        have := ok.2
        rw [okSs, Bool.and_eq_true] at this
        have := txS_ne this.1
        rw [txSs, List.flatten_cons, List.length_append]; omega
  · split
    · simp
    · have := nmT_ne ht; omega
theorem txX_ne {d : Nat} {has rel : Bool} {x : Cx} (ok : okX d has rel x = true) : 1 ≤ (txX x).length := by
  obtain ⟨l, ps, cs⟩ := x
  rw [okX] at ok
  simp only [Bool.and_eq_true, decide_eq_true_eq] at ok
  rw [txX, List.length_append]
  cases ps with
  | nil => have := ok.1.1.1.2; simp at this
  | cons p r =>
    have := ok.2
    rw [okPs, Bool.and_eq_true] at this
    have h1 := txP_ne this.1
    have h2 := joinL_pos (sepP cs) (txP p) (txPs r)
    rw [txPs]; omega
theorem wrL_ne {l : List Cx} (h : checkL l = 0) : wrL l ≠ [] := by
  have ok := check_ok h
  cases l with
  | nil => simp [checkL] at h
  | cons x r =>
    rw [okXs, Bool.and_eq_true] at ok
    have h1 := txX_ne ok.1
    have h2 := joinL_pos sepC (txX x) (txXs r)
    intro e
    unfold wrL at e
    rw [txXs] at e
    rw [e] at h2
    simp only [List.length_nil] at h2; omega
variable [MaxL]
theorem ws_all : ∀ n, n ≤ 2 ^ 28 → WsS n ∧ WsL n
  | 0, _ => by
    have h0 : WsS 0 := fun s hz => by
      obtain ⟨k, na, o, v, f, a, b, w, l⟩ := s
      rw [zS] at hz; omega
    exact ⟨h0, wsL_of (by decide) h0⟩
  | n + 1, h => by
    have ih := (ws_all n (by omega)).2
    have hs := wsS_step (by omega) ih
    exact ⟨hs, wsL_of h hs⟩
theorem con_TextL (l : List Cx) (hz : zXs l ≤ 2 ^ 28) (hg : gXs l = true) : Con Tryz.prog 8 [.sl 3 (encXs l)] (textA l) := by
  refine (V8 _).gives (by simp [pureXs]) (textA_pure l) ?_
  unfold W8
  refine iCall_con (by kernel_rfl) (con_Check l (by omega)) ?_
  refine a_neq rfl rfl ?_
  refine a_cond rfl (fun e => ?_) fun e => ?_
  · have e : ¬ checkL l = 0 := by simpa using e
    exact .pure (by simp) (by rw [textA, if_neg e])
  have e : checkL l = 0 := by simpa using e
  refine n_new (h' := [.blk ⟨61, [.v (.pointer none), .v (.slice none 0 0)], true⟩]) (n := 0) (cs := [.v (.pointer none), .v (.slice none 0 0)]) rfl rfl rfl rfl ?_
  have b0 : Bl 0 [.blk ⟨61, [.v (.pointer none), .v (.slice none 0 0)], true⟩] [] := ⟨_, rfl, rfl, rfl, .inl ⟨rfl, rfl⟩⟩
  refine a_acall (by kernel_rfl) rfl ((ws_all (2 ^ 28) (Nat.le_refl _)).2 l hz hg 0 false false (check_ok e) 0 _ [] b0 (by simp only [List.length_nil]; omega)) ?_
  rintro _ H ⟨rfl, b1, f1⟩
  rw [List.nil_append] at b1
  refine w_fad rfl ?_
  refine a_acall (by kernel_rfl) rfl (acc_blen b1) ?_
  rintro _ _ ⟨rfl, rfl⟩
  refine a_gtr rfl rfl ?_
  refine a_cond rfl (fun e2 => ?_) fun e2 => ?_
  · have e2 : ¬ (wrL l).length ≤ 4000 := by have := of_decide_eq_true e2; omega
    exact .pure (by simp) (by rw [textA, if_pos e, if_neg e2])
  · have e2 : (wrL l).length ≤ 4000 := by have := of_decide_eq_false e2; omega
    refine w_fad rfl ?_
    refine a_acall (by kernel_rfl) rfl (acc_bstr b1 (wrL_ne e)) ?_
    rintro _ H2 ⟨rfl, _⟩
    exact .pure (by simp) (by rw [textA, if_pos e, if_pos e2])
theorem con_SeltextWrites (l : List Cx) (hz : zXs l ≤ 2 ^ 28) (hg : gXs l = true) : Con Tryz.prog 3 [.sl 3 (encXs l)] (bool true) := by
  refine (V3 _).gives (by simp [pureXs]) (by simp) ?_
  unfold W3
  refine iCall_con (by kernel_rfl) (con_Great l (by omega)) ?_
  refine a_cond rfl (fun _ => ?_) fun _ => ?_
  · exact .pure (by simp) rfl
  obtain ⟨n, m, hc⟩ : ∃ n m, countA l = .tup [int n, int m] := by unfold countA; split <;> exact ⟨_, _, rfl⟩
  obtain ⟨u, m2, ht⟩ : ∃ u m2, textA l = .tup [.str u, int m2] := by unfold textA; (repeat' split) <;> exact ⟨_, _, rfl⟩
  have c1 := con_Count l (by omega)
  have c2 := con_rCount l (by omega)
  have c3 := con_TextL l hz hg
  have c4 := con_rTextL l hz hg
  rw [hc] at c1 c2
  rw [ht] at c3 c4
  repeat' (first
    | (with_reducible apply w_let)
    | (with_reducible apply w_and)
    | (with_reducible refine And.intro True.intro ?_)
    | ((with_reducible apply a_lss); rfl; rfl)
    | ((with_reducible apply a_leq); rfl; rfl)
    | ((with_reducible apply a_gtr); rfl; rfl)
    | ((with_reducible apply a_geq); rfl; rfl)
    | ((with_reducible apply a_eql); rfl; rfl)
    | ((with_reducible apply a_neq); rfl; rfl)
    | ((with_reducible apply a_eqlS); rfl; rfl)
    | ((with_reducible apply a_neqS); rfl; rfl)
    | ((with_reducible apply a_eqlB); rfl; rfl)
    | ((with_reducible apply a_neqB); rfl; rfl)
    | ((with_reducible apply w_add); rfl; rfl; first | assumption | (unfold inI; omega))
    | ((with_reducible apply w_sub); rfl; rfl; first | assumption | (unfold inI; omega))
    | ((with_reducible apply a_not); rfl)
    | ((with_reducible apply w_pick_t); rfl)
    | ((with_reducible apply w_pick_f); rfl)
    | ((with_reducible apply a_cond1); rfl; first | rfl | assumption)
    | ((with_reducible apply a_cond0); rfl; first | rfl | assumption)
    | ((with_reducible apply a_guard1); rfl; first | rfl | assumption)
    | ((with_reducible apply a_guard0); rfl; first | rfl | assumption)
    | ((with_reducible apply w_guard_u); rfl)
    | ((with_reducible apply a_pick1); rfl; first | rfl | assumption)
    | ((with_reducible apply a_pick0); rfl; first | rfl | assumption)
    | ((with_reducible apply a_pickN); rfl)
    | ((with_reducible apply a_condN); rfl)
    | ((with_reducible apply a_guardN); rfl)
    | ((with_reducible apply w_fad); rfl)
    | ((with_reducible apply a_fadI); rfl)
    | ((with_reducible apply w_load); rfl; rfl; rfl)
    | ((with_reducible apply w_loadI); rfl)
    | ((with_reducible apply w_loadA); rfl; rfl; first | exact Nat.le_refl _ | exact Nat.le_of_ble_eq_true rfl)
    | ((with_reducible apply a_eqA); rfl; rfl; rfl)
    | ((with_reducible apply a_loadAI); rfl; first | rfl | simp)
    | ((with_reducible apply w_new); first | rfl | simp)
    | ((with_reducible apply a_store); rfl; rfl; rfl; rfl; (first | exact Nat.le_refl _ | simp); (first | rfl | simp); (first | rfl | simp))
    | ((with_reducible apply a_lenS); rfl; intro _)
    | ((with_reducible apply a_len); rfl; (first | rfl | simp); intro _)
    | ((with_reducible apply a_build); rfl)
    | ((with_reducible apply a_extr); rfl; rfl)
    | (refine iCall_con (by kernel_rfl) (c1) ?_)
    | (refine iCall_con (by kernel_rfl) (c2) ?_)
    | (refine iCall_con (by kernel_rfl) (c3) ?_)
    | (refine iCall_con (by kernel_rfl) (c4) ?_)
    | (refine iCall_con (by kernel_rfl) (con_Check l (by omega)) ?_)
    | (refine iCall_con (by kernel_rfl) (con_rCheck l (by omega)) ?_)
    | ((with_reducible apply a_cond); rfl)
    | ((with_reducible apply a_guard); rfl)
    | (with_reducible intro _))
  all_goals refine .pure (by simp) ?_
  all_goals simp_all
end Go.Proofs.YthblflmjingcfaaGreatDoor
end
