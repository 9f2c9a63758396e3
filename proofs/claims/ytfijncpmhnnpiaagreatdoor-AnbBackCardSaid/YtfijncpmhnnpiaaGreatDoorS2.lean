/-
  Numbers, names, and the next token, read by a scanner. The next token, of four kinds. All tokens of a text, along a path of next tokens.
  No conditions.
-/
import Derived.Test.YtfijncpmhnnpiaaGreatDoorS1
import Derived.Test.YtfijncpmhnnpiaaGreatDoorShelfIb
import Derived.Test.YtfijncpmhnnpiaaGreatDoorC1
set_option linter.unusedVariables false
set_option linter.unusedSimpArgs false
section
namespace Go.Proofs.YtfijncpmhnnpiaaGreatDoor
open Go Go.Aw Go.RowKit
set_option maxRecDepth 100000
abbrev tokA (k : Int) (t : Str) (n : Int) (u : Str) (f : Bool) : AV := .agg [u8 k, .str t, int n, .str u, bool f]
abbrev tokC (k : Int) (t : Str) (n : Int) (u : Str) (f : Bool) : Ent := .blk ⟨45, [u8 k, .str t, int n, .str u, bool f], true⟩
theorem Mv.setHi {id a T : Nat} {s : Str} {h H : Heap} (m : Mv id s a h H) (hT : h.length ≤ T) (e : Ent) : Mv id s a h (H.set T e) := by
  obtain ⟨j, rfl⟩ := m
  exact ⟨j.set (T - h.length) e, by rw [List.set_append_right _ _ (by simpa using hT)]; simp⟩
theorem a_slS {x : AV} {lo hi : Option AV} {l r : Str} {a b : Nat} {K : AV → Prop} (ex : x = .str l) (ha : optI lo 0 = some (a : Int)) (hb : optI hi l.length = some (b : Int)) (hab : a ≤ b) (hl : b ≤ l.length) (hr : (l.take b).drop a = r) (q : K (.str r)) : iSlS x lo hi K := by
  subst ex; subst hr
  unfold iSlS
  simp only [ha, hb]
  exact ⟨⟨by omega, by omega, by omega⟩, by simpa using q⟩
theorem k_ret [Laid] {V : Nat} {H : Heap} {K : AV → Heap → Prop} {k0 n0 k n : Int} {t0 u0 t u : Str} {f0 f : Bool} (hv : H[V]? = some (tokC k0 t0 n0 u0 f0)) (q : K (tokA k t n u f) (H.set V (tokC k t n u f))) :
    iStore 5 (.op V 0) (tokA k t n u f) H fun g => iLoad true 5 (.op V 0) g fun r => K r g := by
  have hlt := (List.getElem?_eq_some_iff.1 hv).1
  refine n_store (cs := [u8 k, .str t, int n, .str u, bool f]) (h' := H.set V (tokC k t n u f)) rfl hv rfl rfl (by simp) rfl (by simp [scal]) rfl ?_
  refine w_loadA rfl (List.getElem?_set_self hlt) (by simp) ?_
  exact q
variable [MaxL]
theorem k_numeric {id : Nat} {h : Heap} {s g l u r : Str} {a : Nat} {x : AV} {K : AV → Heap → Prop} (sc : Sc id h s a) (ex : x = .op id 0) (hs : s.length ≤ 2 ^ 20) (e : s.drop a = g ++ (l ++ (u ++ r))) (hg : isSg g) (hd : digs l) (hv : valR l ≤ 1000000000)
    (h1 : inB (pk (u ++ r) 0) 48 57 = false) (h2 : pk (u ++ r) 0 ≠ 46) (h3 : pk (u ++ r) 0 ≠ 101) (h4 : pk (u ++ r) 0 ≠ 69) (h5 : pk (u ++ r) 0 ≠ 37)
    (hN : namP (u ++ r) 0 = !u.isEmpty) (hw : ∀ b ∈ u, letP (b.toNat : Int) = true) (hr : letP (pk r 0) = false) (hq : pk r 0 ≠ 92)
    (k : ∀ H, Mv id s (a + (g ++ l ++ u).length) h H → K (tokA (if u.isEmpty then 10 else 12) [] (sgI g * (1000 * (valR l : Int))) u true) H) : iCall Tryz.prog (.fn (.func 50) [] []) [x] h K := by
  subst ex
  have hn : g ++ l ≠ [] := by simp [hd.1]
  have e1 : s.drop a = (g ++ l) ++ (u ++ r) := by rw [e, List.append_assoc]
  have hlen := drop_len e1 (.inl hn)
  have e2 := drop_app e1
  generalize hE : a + (g ++ l).length = E at e2 hlen
  have hl2 : l.length ≤ 2 ^ 20 := by have : l.length ≤ (g ++ l).length := by simp
                                     omega
  have hE2 : E ≤ s.length := by omega
  have hNs : namP s E = !u.isEmpty := by
    rw [← hN]
    have p0 : pk s E = pk (u ++ r) 0 := by rw [← e2, ← pk_drop, Nat.add_zero]
    have p1 : pk s (E + 1) = pk (u ++ r) 1 := by rw [← e2, ← pk_drop]
    have p2 : pk s (E + 1 + 1) = pk (u ++ r) 2 := by rw [← e2, ← pk_drop]
    simp only [namP, escP, p0, p1, p2, Nat.zero_add]
  have hp0 : pk s E = pk (u ++ r) 0 := by rw [← e2, ← pk_drop, Nat.add_zero]
  refine a_acall (by kernel_rfl) rfl (K0 := fun v h' => v = tokA (if u.isEmpty then 10 else 12) [] (sgI g * (1000 * (valR l : Int))) u true ∧ Mv id s (a + (g ++ l ++ u).length) h h') ?_ ?_
  · refine (V50 _).acall ?_
    unfold W50
    refine n_new (cs := [u8 0, .str [], int 0, .str [], ff]) (n := h.length) (h' := h ++ [tokC 0 [] 0 [] false]) rfl (by simp [scal]) rfl rfl ?_
    have sc2 : Sc id (h ++ [tokC 0 [] 0 [] false]) s a := sc.app _
    rw [iNilF_o]
    refine w_fad rfl ?_
    refine w_load rfl sc2 rfl ?_
    refine k_fig (g := g) (l := l) (r := u ++ r) sc2 rfl (by omega) e hg hd h1 h2 h3 h4 ?_
    rw [hE]
    have m1 : Mv id s E h ((h ++ [tokC 0 [] 0 [] false]).set id (scB s E)) := ⟨[tokC 0 [] 0 [] false], by rw [List.set_append_left _ _ sc.lt]⟩
    have sc3 := sc2.set E
    have hV3 : ((h ++ [tokC 0 [] 0 [] false]).set id (scB s E))[h.length]? = some (tokC 0 [] 0 [] false) := by
      rw [List.getElem?_set_ne (by have := sc.lt; omega)]; simp
    have hL3 : ((h ++ [tokC 0 [] 0 [] false]).set id (scB s E)).length = h.length + 1 := by simp
    generalize hH : (h ++ [tokC 0 [] 0 [] false]).set id (scB s E) = H at m1 sc3 hV3 hL3
    rw [iNilF_o]
    refine w_fad rfl ?_
    refine w_load rfl sc3 rfl ?_
    rw [iNilF_o]
    refine w_fad rfl ?_
    refine w_load rfl sc3 rfl ?_
    refine a_slS (a := a) (b := E) (r := g ++ l) rfl rfl rfl (by omega) hE2 (by rw [← hE]; exact take_app e1) ?_
    refine ⟨_, by kernel_rfl, con_thou g l hg hd hl2 hv, ?_⟩
    refine a_build rfl ?_
    show iStore _ _ _ _ _
    generalize hT : H.length + 1 + 0 = T
    have hgT : (H ++ [Ent.dead] ++ [tokC 0 [] 0 [] false])[T]? = some (tokC 0 [] 0 [] false) := by
      rw [← hT, List.getElem?_append_right (by simp)]; simp
    have hidT : id ≠ T := by have := sc.lt; omega
    have hlt : T < (H ++ [Ent.dead] ++ [tokC 0 [] 0 [] false]).length := (List.getElem?_eq_some_iff.1 hgT).1
    refine n_store (cs := [u8 10, .str [], int (sgI g * (1000 * (valR l : Int))), .str [], tt]) (h' := (H ++ [Ent.dead] ++ [tokC 0 [] 0 [] false]).set T (tokC 10 [] (sgI g * (1000 * (valR l : Int))) [] true)) rfl hgT rfl rfl (by simp) rfl (by simp [scal]) rfl ?_
    have m2 : Mv id s E h ((H ++ [Ent.dead] ++ [tokC 0 [] 0 [] false]).set T (tokC 10 [] (sgI g * (1000 * (valR l : Int))) [] true)) := ((m1.tail _).tail _).setHi (by omega) _
    have sc4 := m2.sc sc
    have hT4 : ((H ++ [Ent.dead] ++ [tokC 0 [] 0 [] false]).set T (tokC 10 [] (sgI g * (1000 * (valR l : Int))) [] true))[T]? = some (tokC 10 [] (sgI g * (1000 * (valR l : Int))) [] true) := List.getElem?_set_self hlt
    have hV4 : ((H ++ [Ent.dead] ++ [tokC 0 [] 0 [] false]).set T (tokC 10 [] (sgI g * (1000 * (valR l : Int))) [] true))[h.length]? = some (tokC 0 [] 0 [] false) := by
      rw [List.getElem?_set_ne (by omega), List.append_assoc, List.getElem?_append_left (by omega)]; exact hV3
    have hL4 : ((H ++ [Ent.dead] ++ [tokC 0 [] 0 [] false]).set T (tokC 10 [] (sgI g * (1000 * (valR l : Int))) [] true)).length = T + 1 := by simp; omega
    generalize (H ++ [Ent.dead] ++ [tokC 0 [] 0 [] false]).set T (tokC 10 [] (sgI g * (1000 * (valR l : Int))) [] true) = H4 at m2 sc4 hT4 hV4 hL4
    have fin : ∀ (kk : Int) (uu : Str) (H5 : Heap), Mv id s (E + u.length) h H5 → H5[T]? = some (tokC kk [] (sgI g * (1000 * (valR l : Int))) uu true) → H5[h.length]? = some (tokC 0 [] 0 [] false) → kk = (if u.isEmpty then 10 else 12) → uu = u →
        iLoad true 5 (AV.op T 0) H5 fun v44 => iStore 5 (.op h.length 0) v44 H5 fun g45 => iLoad true 5 (.op h.length 0) g45 fun r46 => ∃ r' h'', Wk h.length [r46] g45 [r'] h'' ∧ r' = tokA (if u.isEmpty then 10 else 12) [] (sgI g * (1000 * (valR l : Int))) u true ∧ Mv id s (a + (g ++ l ++ u).length) h h'' := by
      intro kk uu H5 m5 hT5 hV5 ekk euu
      rw [ekk, euu] at hT5
      refine w_loadA rfl hT5 (by simp) ?_
      refine k_ret hV5 ?_
      have m6 := m5.setHi (Nat.le_refl _) (tokC (if u.isEmpty then 10 else 12) [] (sgI g * (1000 * (valR l : Int))) u true)
      refine ⟨_, _, Wk.refl _ _ _ m6.len, rfl, ?_⟩
      have : a + (g ++ l ++ u).length = E + u.length := by rw [List.length_append]; omega
      rw [this]; exact m6
    refine w_let ?_
    refine k_name 0 sc4 rfl rfl (by omega) ?_
    rw [Nat.add_zero, hNs]
    rcases (by cases u.isEmpty <;> simp : u.isEmpty = false ∨ u.isEmpty = true) with hu | hu
    · refine a_cond1 rfl (by rw [hu]; rfl) ?_
      refine k_word (w := u) (r := r) sc4 rfl (by omega) hE2 e2 hw hr hq fun H5 m5 => ?_
      have hT5 : H5[T]? = some (tokC 10 [] (sgI g * (1000 * (valR l : Int))) [] true) := by rw [m5.other (by omega) (Ne.symm hidT)]; exact hT4
      have hV5 : H5[h.length]? = some (tokC 0 [] 0 [] false) := by rw [m5.other (by omega) (by have := sc.lt; omega)]; exact hV4
      have hl5 := (List.getElem?_eq_some_iff.1 hT5).1
      have m6 := Mv.trans sc.lt m2 m5
      refine w_fad rfl ?_
      refine n_store (cs := [u8 12]) (h' := H5.set T (tokC 12 [] (sgI g * (1000 * (valR l : Int))) [] true)) rfl hT5 rfl rfl (by simp) rfl rfl rfl ?_
      refine w_fad rfl ?_
      refine n_store (cs := [.str u]) (h' := H5.set T (tokC 12 [] (sgI g * (1000 * (valR l : Int))) u true)) rfl (List.getElem?_set_self hl5) rfl rfl (by simp) rfl rfl (by rw [List.set_set]; rfl) ?_
      refine w_and ?_
      refine fin 12 u _ (m6.setHi (by omega) _) (List.getElem?_set_self hl5) (by rw [List.getElem?_set_ne (by omega)]; exact hV5) (by rw [hu]; rfl) rfl
    · have hu0 : u = [] := List.isEmpty_iff.1 hu
      refine a_cond0 rfl (by rw [hu]; rfl) ?_
      refine k_peek 0 sc4 rfl rfl (by omega) ?_
      rw [Nat.add_zero, hp0]
      refine a_eql rfl rfl ?_
      refine a_cond0 rfl (decide_eq_false h5) ?_
      refine w_and ?_
      refine fin 10 [] _ (by rw [hu0]; exact m2) hT4 hV4 (by rw [hu]; rfl) hu0.symm
  · rintro _ H ⟨rfl, m⟩
    exact k H m
theorem k_ident {id : Nat} {h : Heap} {s u r : Str} {a : Nat} {x : AV} {K : AV → Heap → Prop} (sc : Sc id h s a) (ex : x = .op id 0) (hs : s.length ≤ 2 ^ 20) (ha : a ≤ s.length) (e : s.drop a = u ++ r)
    (hw : ∀ b ∈ u, letP (b.toNat : Int) = true) (hr : letP (pk r 0) = false) (hq : pk r 0 ≠ 92) (hp : pk r 0 ≠ 40)
    (k : ∀ H, Mv id s (a + u.length) h H → K (tokA 1 u 0 [] false) H) : iCall Tryz.prog (.fn (.func 51) [] []) [x] h K := by
  subst ex
  have hlen := drop_len e (.inr ha)
  have e2 := drop_app e
  refine a_acall (by kernel_rfl) rfl (K0 := fun v h' => v = tokA 1 u 0 [] false ∧ Mv id s (a + u.length) h h') ?_ ?_
  · refine (V51 _).acall ?_
    unfold W51
    refine n_new (cs := [u8 0, .str [], int 0, .str [], ff]) (n := h.length) (h' := h ++ [tokC 0 [] 0 [] false]) rfl (by simp [scal]) rfl rfl ?_
    have sc2 : Sc id (h ++ [tokC 0 [] 0 [] false]) s a := sc.app _
    refine k_word (w := u) (r := r) sc2 rfl (by omega) ha e hw hr hq fun H m => ?_
    have sc3 := m.sc sc2
    have hV : H[h.length]? = some (tokC 0 [] 0 [] false) := by rw [m.other (by simp) (by have := sc.lt; omega)]; simp
    have m3 : Mv id s (a + u.length) h H := by
      obtain ⟨j, rfl⟩ := m
      exact ⟨[tokC 0 [] 0 [] false] ++ j, by rw [List.set_append_left _ _ sc.lt, List.append_assoc]⟩
    refine k_peek 0 sc3 rfl rfl (by omega) ?_
    rw [Nat.add_zero, show pk s (a + u.length) = pk r 0 by rw [← e2, ← pk_drop, Nat.add_zero]]
    refine a_neq rfl rfl ?_
    refine a_cond1 rfl (by simp [hp]) ?_
    refine a_build rfl ?_
    refine k_ret hV ?_
    have m6 := m3.setHi (Nat.le_refl _) (tokC 1 u 0 [] false)
    exact ⟨_, _, Wk.refl _ _ _ m6.len, rfl, m6⟩
  · rintro _ H ⟨rfl, m⟩
    exact k H m
end Go.Proofs.YtfijncpmhnnpiaaGreatDoor
end

section
namespace Go.Proofs.YtfijncpmhnnpiaaGreatDoor
open Go Go.Aw Go.RowKit
set_option maxRecDepth 100000
theorem con_indexByte [Laid] (s : Str) (b : UInt8) : Con Tryz.prog 52 [.str s, byteA b] (int (Lib.indexByte s b)) := by
  refine con_below (v := .int .i64 (Lib.indexByte s b)) (by simp [PureL, byteA]) (by simp) (by simp) (fun w => by simp) ?_
  intro ι S w vs h1 hg
  match vs, h1 with
  | [], h1 => simp at h1
  | [v], h1 => simp at h1
  | v :: u :: x :: vs, h1 => simp at h1
  | [v, u], h1 =>
    simp only [RepL_cons, RepL_nil, and_true, Rep_str, byteA, Rep_v] at h1
    obtain ⟨⟨rfl, _⟩, rfl⟩ := h1
    refine (Any.strings_IndexByte lays137 ⟨s.toArray⟩ (b.toNat : Int) w).mono ?_
    rintro e w' ⟨rfl, rfl⟩
    exact ⟨by simp, Below.refl _ _⟩
theorem w_nilF {P : Program} {id o : Nat} {K : AV → Prop} (q : K (.op id o)) : iNilF P (.op id o) K := q
theorem pre_no {s m : Str} (h : s.take m.length ≠ m) : (decide (m.length ≤ s.length) && decide (s.take m.length = m)) = false := by simp [h]
theorem fin_next {id a : Nat} {s : Str} {h H : Heap} (hid : id < h.length) (m : Mv id s a (h ++ [tokC 0 [] 0 [] false]) H) : H[h.length]? = some (tokC 0 [] 0 [] false) ∧ Mv id s a h H := by
  refine ⟨?_, ?_⟩
  · rw [m.other (by simp) (by omega)]; simp
  · obtain ⟨j, rfl⟩ := m
    exact ⟨[tokC 0 [] 0 [] false] ++ j, by rw [List.set_append_left _ _ hid, List.append_assoc]⟩
variable [MaxL]
/-- Some spaces. -/
theorem k_nextS {id : Nat} {h : Heap} {s w r : Str} {a : Nat} {x : AV} {K : AV → Heap → Prop} (sc : Sc id h s a) (ex : x = .op id 0) (hs : s.length ≤ 2 ^ 20) (e : s.drop a = w ++ r) (hw0 : w ≠ []) (hw : ∀ b ∈ w, b = 32) (hr : spaceI (pk r 0) = false)
    (k : ∀ H, Mv id s (a + w.length) h H → K (tokA 13 [] 0 [] false) H) : iCall Tryz.prog (.fn (.func 25) [] []) [x] h K := by
  subst ex
  have hlen := drop_len e (.inl hw0)
  have hid := sc.lt
  have hp : pk s a = 32 := by
    have : pk s a = pk (w ++ r) 0 := by rw [← e, ← pk_drop, Nat.add_zero]
    rw [this]
    cases w with
    | nil => exact absurd rfl hw0
    | cons b w => rw [hw b (List.mem_cons_self ..)]; rfl
  have hru : runL spaceI s a = w.length := run_app e (fun b hb => by rw [hw b hb]; decide) hr (by decide)
  refine a_acall (by kernel_rfl) rfl (K0 := fun v h' => v = tokA 13 [] 0 [] false ∧ Mv id s (a + w.length) h h') ?_ ?_
  · refine (V25 _).acall ?_
    unfold W25
    refine n_new (cs := [u8 0, .str [], int 0, .str [], ff]) (n := h.length) (h' := h ++ [tokC 0 [] 0 [] false]) rfl (by simp [scal]) rfl rfl ?_
    have sc2 : Sc id (h ++ [tokC 0 [] 0 [] false]) s a := sc.app _
    refine ⟨int (pk s a), k_peek 0 sc2 rfl rfl (by omega) ⟨rfl, rfl⟩, ?_⟩
    refine w_nilF ?_
    refine w_fad rfl ?_
    refine w_load rfl sc2 rfl ?_
    refine w_nilF ?_
    refine w_fad rfl ?_
    refine w_load rfl sc2 rfl ?_
    refine a_slS (a := a) (b := s.length) (r := s.drop a) rfl rfl rfl (by omega) (Nat.le_refl _) (by rw [List.take_length]) ?_
    refine iCall_con (by kernel_rfl) (con_space _) ?_
    refine a_cond1 rfl (by rw [hp]; decide) ?_
    refine k_while (f := 42) sc2 rfl (by kernel_rfl) con_space (by decide) (by omega) (by omega) ?_
    rw [hru]
    have ⟨hV, m⟩ := fin_next hid (Mv.set id s (a + w.length) (h ++ [tokC 0 [] 0 [] false]))
    refine a_build rfl ?_
    refine k_ret hV ?_
    have m6 := m.setHi (Nat.le_refl _) (tokC 13 [] 0 [] false)
    exact ⟨_, _, Wk.refl _ _ _ m6.len, rfl, m6⟩
  · rintro _ H ⟨rfl, m⟩
    exact k H m
/-- A number, with its unit. -/
theorem k_nextN {id : Nat} {h : Heap} {s g l u r : Str} {a : Nat} {x : AV} {K : AV → Heap → Prop} (sc : Sc id h s a) (ex : x = .op id 0) (hs : s.length ≤ 2 ^ 20) (e : s.drop a = g ++ (l ++ (u ++ r))) (hg : isSg g) (hd : digs l) (hv : valR l ≤ 1000000000)
    (h1 : inB (pk (u ++ r) 0) 48 57 = false) (h2 : pk (u ++ r) 0 ≠ 46) (h3 : pk (u ++ r) 0 ≠ 101) (h4 : pk (u ++ r) 0 ≠ 69) (h5 : pk (u ++ r) 0 ≠ 37)
    (hN : namP (u ++ r) 0 = !u.isEmpty) (hw : ∀ b ∈ u, letP (b.toNat : Int) = true) (hr : letP (pk r 0) = false) (hq : pk r 0 ≠ 92)
    (k : ∀ H, Mv id s (a + (g ++ l ++ u).length) h H → K (tokA (if u.isEmpty then 10 else 12) [] (sgI g * (1000 * (valR l : Int))) u true) H) : iCall Tryz.prog (.fn (.func 25) [] []) [x] h K := by
  subst ex
  have hn : g ++ l ≠ [] := by simp [hd.1]
  have e1 : s.drop a = (g ++ l) ++ (u ++ r) := by rw [e, List.append_assoc]
  have hlen := drop_len e1 (.inl hn)
  have hid := sc.lt
  have hh := hd.head (u ++ r)
  have hp0 : pk s a = pk (g ++ (l ++ (u ++ r))) 0 := by rw [← e, ← pk_drop, Nat.add_zero]
  have hp1 : pk s (a + 1) = pk (g ++ (l ++ (u ++ r))) 1 := by rw [← e, ← pk_drop]
  have hpa : pk s a = 43 ∨ pk s a = 45 ∨ (48 ≤ pk s a ∧ pk s a ≤ 57) := by
    rw [hp0]
    rcases hg with rfl | rfl | rfl
    · exact .inr (.inr hh)
    · exact .inl rfl
    · exact .inr (.inl rfl)
  have hnum : numP s a = true := by
    unfold numP inB
    rcases hg with rfl | rfl | rfl
    · rw [List.nil_append] at hp0
      have q : ¬ (pk s a = 43 ∨ pk s a = 45) := by omega
      have q2 : ¬ pk s a = 46 := by omega
      simp only [if_neg q, Nat.add_zero, if_neg q2]
      simp; omega
    · have hp1 : pk s (a + 1) = pk (l ++ (u ++ r)) 0 := hp1
      have q : pk s a = 43 ∨ pk s a = 45 := .inl hp0
      have q2 : ¬ pk s (a + 1) = 46 := by omega
      simp only [if_pos q, if_neg q2]
      simp; omega
    · have hp1 : pk s (a + 1) = pk (l ++ (u ++ r)) 0 := hp1
      have q : pk s a = 43 ∨ pk s a = 45 := .inr hp0
      have q2 : ¬ pk s (a + 1) = 46 := by omega
      simp only [if_pos q, if_neg q2]
      simp; omega
  have c0 : spaceI (pk s a) = false := by unfold spaceI; simp; omega
  have c1 : decide (pk s a = 34) = false := decide_eq_false (by omega)
  have c2 : decide (pk s a = 39) = false := decide_eq_false (by omega)
  have c3 : decide (pk s a = 35) = false := decide_eq_false (by omega)
  refine a_acall (by kernel_rfl) rfl (K0 := fun v h' => v = tokA (if u.isEmpty then 10 else 12) [] (sgI g * (1000 * (valR l : Int))) u true ∧ Mv id s (a + (g ++ l ++ u).length) h h') ?_ ?_
  · refine (V25 _).acall ?_
    unfold W25
    refine n_new (cs := [u8 0, .str [], int 0, .str [], ff]) (n := h.length) (h' := h ++ [tokC 0 [] 0 [] false]) rfl (by simp [scal]) rfl rfl ?_
    have sc2 : Sc id (h ++ [tokC 0 [] 0 [] false]) s a := sc.app _
    refine ⟨int (pk s a), k_peek 0 sc2 rfl rfl (by omega) ⟨rfl, rfl⟩, ?_⟩
    refine w_nilF ?_
    refine w_fad rfl ?_
    refine w_load rfl sc2 rfl ?_
    refine w_nilF ?_
    refine w_fad rfl ?_
    refine w_load rfl sc2 rfl ?_
    refine a_slS (a := a) (b := s.length) (r := s.drop a) rfl rfl rfl (by omega) (Nat.le_refl _) (by rw [List.take_length]) ?_
    refine iCall_con (by kernel_rfl) (con_space _) ?_
    refine a_cond0 rfl c0 ?_
    repeat' (first
      | (with_reducible apply w_let)
      | (with_reducible apply w_and)
      | (with_reducible refine And.intro True.intro ?_)
      | ((with_reducible apply a_lss); rfl; rfl)
      | ((with_reducible apply a_leq); rfl; rfl)
      | ((with_reducible apply a_gtr); rfl; rfl)
      | ((with_reducible apply a_geq); rfl; rfl)
      | ((with_reducible apply a_eql); rfl; rfl)
      | ((with_reducible apply a_neq); rfl; rfl)
      | ((with_reducible apply a_eqlS); rfl; rfl)
      | ((with_reducible apply a_neqS); rfl; rfl)
      | ((with_reducible apply a_eqlB); rfl; rfl)
      | ((with_reducible apply a_neqB); rfl; rfl)
      | ((with_reducible apply w_add); rfl; rfl; first | assumption | (unfold inI; omega))
      | ((with_reducible apply w_sub); rfl; rfl; first | assumption | (unfold inI; omega))
      | ((with_reducible apply a_not); rfl)
      | ((with_reducible apply w_pick_t); rfl)
      | ((with_reducible apply w_pick_f); rfl)
      | ((with_reducible apply a_cond1); rfl; first | rfl | assumption)
      | ((with_reducible apply a_cond0); rfl; first | rfl | assumption)
      | ((with_reducible apply a_guard1); rfl; first | rfl | assumption)
      | ((with_reducible apply a_guard0); rfl; first | rfl | assumption)
      | ((with_reducible apply w_guard_u); rfl)
      | ((with_reducible apply a_pick1); rfl; first | rfl | assumption)
      | ((with_reducible apply a_pick0); rfl; first | rfl | assumption)
      | ((with_reducible apply a_pickN); rfl)
      | ((with_reducible apply a_condN); rfl)
      | ((with_reducible apply a_guardN); rfl)
      | ((with_reducible apply w_fad); rfl)
      | ((with_reducible apply a_fadI); rfl)
      | ((with_reducible apply w_load); rfl; rfl; rfl)
      | ((with_reducible apply w_loadI); rfl)
      | ((with_reducible apply w_loadA); rfl; rfl; first | exact Nat.le_refl _ | exact Nat.le_of_ble_eq_true rfl)
      | ((with_reducible apply a_eqA); rfl; rfl; rfl)
      | ((with_reducible apply a_loadAI); rfl; first | rfl | simp)
      | ((with_reducible apply w_new); first | rfl | simp)
      | ((with_reducible apply a_store); rfl; rfl; rfl; rfl; (first | exact Nat.le_refl _ | simp); (first | rfl | simp); (first | rfl | simp))
      | ((with_reducible apply a_lenS); rfl; intro _)
      | ((with_reducible apply a_len); rfl; (first | rfl | simp); intro _)
      | ((with_reducible apply a_build); rfl)
      | ((with_reducible apply a_extr); rfl; rfl)
      | (refine k_number sc2 rfl (by omega) ?_)
      | ((with_reducible apply a_cond); rfl)
      | ((with_reducible apply a_guard); rfl)
      | (with_reducible intro _))
    refine k_numeric (g := g) (l := l) (u := u) (r := r) sc2 rfl hs e hg hd hv h1 h2 h3 h4 h5 hN hw hr hq fun H m0 => ?_
    have ⟨hV, m⟩ := fin_next hid m0
    refine k_ret hV ?_
    have m6 := m.setHi (Nat.le_refl _) (tokC (if u.isEmpty then 10 else 12) [] (sgI g * (1000 * (valR l : Int))) u true)
    exact ⟨_, _, Wk.refl _ _ _ m6.len, rfl, m6⟩
  · rintro _ H ⟨rfl, m⟩
    exact k H m
/-- A name. -/
theorem k_nextI {id : Nat} {h : Heap} {s u r : Str} {a : Nat} {x : AV} {K : AV → Heap → Prop} (sc : Sc id h s a) (ex : x = .op id 0) (hs : s.length ≤ 2 ^ 20) (hu : u ≠ []) (e : s.drop a = u ++ r)
    (hw : ∀ b ∈ u, letP (b.toNat : Int) = true) (hr : letP (pk r 0) = false) (hq : pk r 0 ≠ 92) (hp : pk r 0 ≠ 40) (hnum : numP s a = false) (hnam : namP s a = true) (hp0 : pk s a = 45 ∨ pk s a = 78 ∨ pk s a = 110) (hcd : u.take 2 ≠ [45, 45])
    (hr2 : u.length = 1 → pk r 0 ≠ 45)
    (k : ∀ H, Mv id s (a + u.length) h H → K (tokA 1 u 0 [] false) H) : iCall Tryz.prog (.fn (.func 25) [] []) [x] h K := by
  subst ex
  have hlen := drop_len e (.inl hu)
  have hid := sc.lt
  have c0 : spaceI (pk s a) = false := by unfold spaceI; simp; omega
  have c1 : decide (pk s a = 34) = false := decide_eq_false (by omega)
  have c2 : decide (pk s a = 39) = false := decide_eq_false (by omega)
  have c3 : decide (pk s a = 35) = false := decide_eq_false (by omega)
  have c4 : decide (pk s a = 64) = false := decide_eq_false (by omega)
  have hpu : pk s a = pk (u ++ r) 0 := by rw [← e, ← pk_drop, Nat.add_zero]
  have p1 : (decide (([45, 45, 62] : Str).length ≤ (s.drop a).length) && decide ((s.drop a).take ([45, 45, 62] : Str).length = [45, 45, 62])) = false := by
    refine pre_no fun q => ?_
    rw [e] at q
    match u, hu, hcd, hr2 with
    | [b], _, _, hr2 =>
      match r with
      | [] => simp at q
      | c :: r =>
        have h0 := hr2 rfl
        simp at q
        exact h0 (by rw [q.2.1]; rfl)
    | b :: c :: u, _, hcd, _ => simp at q hcd; exact hcd q.1 q.2.1
  have p2 : (decide (([60, 33, 45, 45] : Str).length ≤ (s.drop a).length) && decide ((s.drop a).take ([60, 33, 45, 45] : Str).length = [60, 33, 45, 45])) = false := by
    refine pre_no fun q => ?_
    rw [e] at q
    match u, hu with
    | b :: u, _ =>
      have hb : pk s a = (b.toNat : Int) := hpu
      simp at q
      rw [q.1] at hb
      simp at hb
      omega
  refine a_acall (by kernel_rfl) rfl (K0 := fun v h' => v = tokA 1 u 0 [] false ∧ Mv id s (a + u.length) h h') ?_ ?_
  · refine (V25 _).acall ?_
    unfold W25
    refine n_new (cs := [u8 0, .str [], int 0, .str [], ff]) (n := h.length) (h' := h ++ [tokC 0 [] 0 [] false]) rfl (by simp [scal]) rfl rfl ?_
    have sc2 : Sc id (h ++ [tokC 0 [] 0 [] false]) s a := sc.app _
    refine ⟨int (pk s a), k_peek 0 sc2 rfl rfl (by omega) ⟨rfl, rfl⟩, ?_⟩
    refine w_nilF ?_
    refine w_fad rfl ?_
    refine w_load rfl sc2 rfl ?_
    refine w_nilF ?_
    refine w_fad rfl ?_
    refine w_load rfl sc2 rfl ?_
    refine a_slS (a := a) (b := s.length) (r := s.drop a) rfl rfl rfl (by omega) (Nat.le_refl _) (by rw [List.take_length]) ?_
    refine iCall_con (by kernel_rfl) (con_space _) ?_
    refine a_cond0 rfl c0 ?_
    repeat' (first
      | (with_reducible apply w_let)
      | (with_reducible apply w_and)
      | (with_reducible refine And.intro True.intro ?_)
      | ((with_reducible apply a_lss); rfl; rfl)
      | ((with_reducible apply a_leq); rfl; rfl)
      | ((with_reducible apply a_gtr); rfl; rfl)
      | ((with_reducible apply a_geq); rfl; rfl)
      | ((with_reducible apply a_eql); rfl; rfl)
      | ((with_reducible apply a_neq); rfl; rfl)
      | ((with_reducible apply a_eqlS); rfl; rfl)
      | ((with_reducible apply a_neqS); rfl; rfl)
      | ((with_reducible apply a_eqlB); rfl; rfl)
      | ((with_reducible apply a_neqB); rfl; rfl)
      | ((with_reducible apply w_add); rfl; rfl; first | assumption | (unfold inI; omega))
      | ((with_reducible apply w_sub); rfl; rfl; first | assumption | (unfold inI; omega))
      | ((with_reducible apply a_not); rfl)
      | ((with_reducible apply w_pick_t); rfl)
      | ((with_reducible apply w_pick_f); rfl)
      | ((with_reducible apply a_cond1); rfl; first | rfl | assumption)
      | ((with_reducible apply a_cond0); rfl; first | rfl | assumption)
      | ((with_reducible apply a_guard1); rfl; first | rfl | assumption)
      | ((with_reducible apply a_guard0); rfl; first | rfl | assumption)
      | ((with_reducible apply w_guard_u); rfl)
      | ((with_reducible apply a_pick1); rfl; first | rfl | assumption)
      | ((with_reducible apply a_pick0); rfl; first | rfl | assumption)
      | ((with_reducible apply a_pickN); rfl)
      | ((with_reducible apply a_condN); rfl)
      | ((with_reducible apply a_guardN); rfl)
      | ((with_reducible apply w_fad); rfl)
      | ((with_reducible apply a_fadI); rfl)
      | ((with_reducible apply w_load); rfl; rfl; rfl)
      | ((with_reducible apply w_loadI); rfl)
      | ((with_reducible apply w_loadA); rfl; rfl; first | exact Nat.le_refl _ | exact Nat.le_of_ble_eq_true rfl)
      | ((with_reducible apply a_eqA); rfl; rfl; rfl)
      | ((with_reducible apply a_loadAI); rfl; first | rfl | simp)
      | ((with_reducible apply w_new); first | rfl | simp)
      | ((with_reducible apply a_store); rfl; rfl; rfl; rfl; (first | exact Nat.le_refl _ | simp); (first | rfl | simp); (first | rfl | simp))
      | ((with_reducible apply a_lenS); rfl; intro _)
      | ((with_reducible apply a_len); rfl; (first | rfl | simp); intro _)
      | ((with_reducible apply a_build); rfl)
      | ((with_reducible apply a_extr); rfl; rfl)
      | (refine k_number sc2 rfl (by omega) ?_)
      | (refine iCall_con (by kernel_rfl) (con_pre2 _ _) ?_)
      | (refine k_name 0 sc2 rfl rfl (by omega) ?_)
      | ((with_reducible apply a_cond); rfl)
      | ((with_reducible apply a_guard); rfl)
      | (with_reducible intro _))
    refine k_ident (u := u) (r := r) sc2 rfl hs (by omega) e hw hr hq hp fun H m0 => ?_
    have ⟨hV, m⟩ := fin_next hid m0
    refine k_ret hV ?_
    have m6 := m.setHi (Nat.le_refl _) (tokC 1 u 0 [] false)
    exact ⟨_, _, Wk.refl _ _ _ m6.len, rfl, m6⟩
  · rintro _ H ⟨rfl, m⟩
    exact k H m
/-- A sign that stands alone. -/
theorem k_nextD {id : Nat} {h : Heap} {s r : Str} {c : UInt8} {a : Nat} {x : AV} {K : AV → Heap → Prop} (sc : Sc id h s a) (ex : x = .op id 0) (hs : s.length ≤ 2 ^ 20) (e : s.drop a = c :: r) (hc : c = 43 ∨ c = 45) (hr : pk r 0 = 32)
    (k : ∀ H, Mv id s (a + 1) h H → K (tokA 9 [c] 0 [] false) H) : iCall Tryz.prog (.fn (.func 25) [] []) [x] h K := by
  subst ex
  have hlen := drop_len (w := [c]) e (.inl (by simp))
  simp only [List.length_cons, List.length_nil] at hlen
  have hid := sc.lt
  have hp0 : pk s a = (c.toNat : Int) := by
    have : pk s a = pk (c :: r) 0 := by rw [← e, ← pk_drop, Nat.add_zero]
    rw [this]; rfl
  have hp1 : pk s (a + 1) = 32 := by
    have : pk s (a + 1) = pk (c :: r) 1 := by rw [← e, ← pk_drop]
    rw [this]; exact hr
  have hpa : pk s a = 43 ∨ pk s a = 45 := by rcases hc with rfl | rfl <;> simp [hp0]
  have c0 : spaceI (pk s a) = false := by unfold spaceI; simp; omega
  have c1 : decide (pk s a = 34) = false := decide_eq_false (by omega)
  have c2 : decide (pk s a = 39) = false := decide_eq_false (by omega)
  have c3 : decide (pk s a = 35) = false := decide_eq_false (by omega)
  have c4 : decide (pk s a = 64) = false := decide_eq_false (by omega)
  have hnum : numP s a = false := by
    unfold numP
    have q2 : ¬ pk s (a + 1) = 46 := by omega
    simp only [if_pos hpa]
    rw [if_neg q2, hp1]
    decide
  have hnam : namP s (a + 0) = false := by
    rw [Nat.add_zero]
    unfold namP escP
    have d1 : firstI 32 = false := by decide
    have d2 : firstI 43 = false := by decide
    by_cases q : pk s a = 45
    · rw [if_pos q, hp1]; simp [d1]
    · have q2 : pk s a = 43 := by omega
      rw [if_neg q, q2]; simp [d2]
  have two : ∀ m : Str, (∃ y z, m = c :: y :: z ∧ y ≠ 32) ∨ (∃ y z, m = y :: z ∧ y ≠ c) → (decide (m.length ≤ (s.drop a).length) && decide ((s.drop a).take m.length = m)) = false := by
    intro m hm
    refine pre_no fun q => ?_
    rw [e] at q
    rcases hm with ⟨y, z, rfl, hy⟩ | ⟨y, z, rfl, hy⟩
    · match r, hr with
      | [], hr => simp [pk] at hr
      | d :: r, hr =>
        have hd : (d.toNat : Int) = 32 := hr
        simp at q
        refine hy (by rw [← q.1]; exact UInt8.toNat_inj.1 (show d.toNat = 32 by omega))
    · simp at q
      exact hy q.1.symm
  have p1 : (decide (([45, 45, 62] : Str).length ≤ (s.drop a).length) && decide ((s.drop a).take ([45, 45, 62] : Str).length = [45, 45, 62])) = false := by
    refine two _ ?_
    rcases hc with rfl | rfl
    · exact .inr ⟨45, [45, 62], rfl, by decide⟩
    · exact .inl ⟨45, [62], rfl, by decide⟩
  have p2 : (decide (([60, 33, 45, 45] : Str).length ≤ (s.drop a).length) && decide ((s.drop a).take ([60, 33, 45, 45] : Str).length = [60, 33, 45, 45])) = false := by
    refine two _ (.inr ⟨60, [33, 45, 45], rfl, ?_⟩)
    rcases hc with rfl | rfl <;> decide
  refine a_acall (by kernel_rfl) rfl (K0 := fun v h' => v = tokA 9 [c] 0 [] false ∧ Mv id s (a + 1) h h') ?_ ?_
  · refine (V25 _).acall ?_
    unfold W25
    refine n_new (cs := [u8 0, .str [], int 0, .str [], ff]) (n := h.length) (h' := h ++ [tokC 0 [] 0 [] false]) rfl (by simp [scal]) rfl rfl ?_
    have sc2 : Sc id (h ++ [tokC 0 [] 0 [] false]) s a := sc.app _
    refine ⟨int (pk s a), k_peek 0 sc2 rfl rfl (by omega) ⟨rfl, rfl⟩, ?_⟩
    refine w_nilF ?_
    refine w_fad rfl ?_
    refine w_load rfl sc2 rfl ?_
    refine w_nilF ?_
    refine w_fad rfl ?_
    refine w_load rfl sc2 rfl ?_
    refine a_slS (a := a) (b := s.length) (r := s.drop a) rfl rfl rfl (by omega) (Nat.le_refl _) (by rw [List.take_length]) ?_
    refine iCall_con (by kernel_rfl) (con_space _) ?_
    refine a_cond0 rfl c0 ?_
    repeat' (first
      | (with_reducible apply w_let)
      | (with_reducible apply w_and)
      | (with_reducible refine And.intro True.intro ?_)
      | ((with_reducible apply a_lss); rfl; rfl)
      | ((with_reducible apply a_leq); rfl; rfl)
      | ((with_reducible apply a_gtr); rfl; rfl)
      | ((with_reducible apply a_geq); rfl; rfl)
      | ((with_reducible apply a_eql); rfl; rfl)
      | ((with_reducible apply a_neq); rfl; rfl)
      | ((with_reducible apply a_eqlS); rfl; rfl)
      | ((with_reducible apply a_neqS); rfl; rfl)
      | ((with_reducible apply a_eqlB); rfl; rfl)
      | ((with_reducible apply a_neqB); rfl; rfl)
      | ((with_reducible apply w_add); rfl; rfl; first | assumption | (unfold inI; omega))
      | ((with_reducible apply w_sub); rfl; rfl; first | assumption | (unfold inI; omega))
      | ((with_reducible apply a_not); rfl)
      | ((with_reducible apply w_pick_t); rfl)
      | ((with_reducible apply w_pick_f); rfl)
      | ((with_reducible apply a_cond1); rfl; first | rfl | assumption)
      | ((with_reducible apply a_cond0); rfl; first | rfl | assumption)
      | ((with_reducible apply a_guard1); rfl; first | rfl | assumption)
      | ((with_reducible apply a_guard0); rfl; first | rfl | assumption)
      | ((with_reducible apply w_guard_u); rfl)
      | ((with_reducible apply a_pick1); rfl; first | rfl | assumption)
      | ((with_reducible apply a_pick0); rfl; first | rfl | assumption)
      | ((with_reducible apply a_pickN); rfl)
      | ((with_reducible apply a_condN); rfl)
      | ((with_reducible apply a_guardN); rfl)
      | ((with_reducible apply w_fad); rfl)
      | ((with_reducible apply a_fadI); rfl)
      | ((with_reducible apply w_load); rfl; rfl; rfl)
      | ((with_reducible apply w_loadI); rfl)
      | ((with_reducible apply w_loadA); rfl; rfl; first | exact Nat.le_refl _ | exact Nat.le_of_ble_eq_true rfl)
      | ((with_reducible apply a_eqA); rfl; rfl; rfl)
      | ((with_reducible apply a_loadAI); rfl; first | rfl | simp)
      | ((with_reducible apply w_new); first | rfl | simp)
      | ((with_reducible apply a_store); rfl; rfl; rfl; rfl; (first | exact Nat.le_refl _ | simp); (first | rfl | simp); (first | rfl | simp))
      | ((with_reducible apply a_lenS); rfl; intro _)
      | ((with_reducible apply a_len); rfl; (first | rfl | simp); intro _)
      | ((with_reducible apply a_build); rfl)
      | ((with_reducible apply a_extr); rfl; rfl)
      | (refine k_number sc2 rfl (by omega) ?_)
      | (refine iCall_con (by kernel_rfl) (con_pre2 _ _) ?_)
      | (refine k_name 0 sc2 rfl rfl (by omega) ?_)
      | ((with_reducible apply a_cond); rfl)
      | ((with_reducible apply a_guard); rfl)
      | (with_reducible intro _))
    refine w_nilF ?_
    refine w_fad rfl ?_
    refine w_load rfl sc2 rfl ?_
    refine w_add rfl rfl (by unfold inI; omega) ?_
    refine w_nilF ?_
    refine w_fad rfl ?_
    refine n_store (cs := [int ((a : Int) + 1)]) (h' := (h ++ [tokC 0 [] 0 [] false]).set id (scB s (a + 1))) rfl sc2 rfl rfl (by simp) rfl rfl rfl ?_
    have ⟨hV, m⟩ := fin_next hid (Mv.set id s (a + 1) (h ++ [tokC 0 [] 0 [] false]))
    refine a_conv (m := (c.toNat : Int)) (n := (c.toNat : Int)) (by rw [hp0]) (by rw [IntKind.wrap_u8]; have := c.toNat_lt; omega) ?_
    refine iCall_con (by kernel_rfl) (con_indexByte _ c) ?_
    have hib : Lib.indexByte [58, 59, 44, 91, 93, 40, 41, 123, 125] c = -1 := by rcases hc with rfl | rfl <;> decide
    rw [hib]
    refine a_geq rfl rfl ?_
    refine a_cond0 rfl rfl ?_
    refine a_slS (a := 0) (b := 1) (r := [c]) rfl rfl rfl (by omega) (by rw [e]; simp) (by rw [e]; rfl) ?_
    refine a_build rfl ?_
    refine k_ret hV ?_
    have m6 := m.setHi (Nat.le_refl _) (tokC 9 [c] 0 [] false)
    exact ⟨_, _, Wk.refl _ _ _ m6.len, rfl, m6⟩
  · rintro _ H ⟨rfl, m⟩
    exact k H m
end Go.Proofs.YtfijncpmhnnpiaaGreatDoor
end

section
namespace Go.Proofs.YtfijncpmhnnpiaaGreatDoor
open Go Go.Aw Go.RowKit
set_option maxRecDepth 100000
/-- A token. -/
structure Tok where
  k : Int
  t : Str
  n : Int
  u : Str
  f : Bool
abbrev Tok.row (x : Tok) : List AV := [u8 x.k, .str x.t, int x.n, .str x.u, bool x.f]
abbrev Tok.av (x : Tok) : AV := tokA x.k x.t x.n x.u x.f
abbrev rowsT (l : List Tok) : List (List AV) := l.map Tok.row
theorem rowsT_ok (l : List Tok) : (rowsT l).all (rowOK 5) = true := rows_ok (f := Tok.row) (fun x => ⟨rfl, by simp [scal]⟩) l
theorem rowsT_pure : ∀ l : List Tok, PureR (rowsT l)
  | [] => by simp [PureR]
  | x :: l => by show PureR (x.row :: rowsT l); rw [PureR]; exact ⟨by simp [PureL], rowsT_pure l⟩
section
variable [Laid]
/-- The next token at a place. -/
def Nx (s : Str) (a : Nat) (t : Tok) (b : Nat) : Prop :=
  a < b ∧ b ≤ s.length ∧ pk s b ≠ 47 ∧ ∀ (id : Nat) (h : Heap) (K : AV → Heap → Prop), Sc id h s a → (∀ H, Mv id s b h H → K t.av H) → iCall Tryz.prog (.fn (.func 25) [] []) [.op id 0] h K
inductive Tk (s : Str) : Nat → List Tok → Prop
  | nil : Tk s s.length []
  | cons {a b : Nat} {t : Tok} {l : List Tok} : Nx s a t b → Tk s b l → Tk s a (t :: l)
theorem Tk.le {s : Str} {a : Nat} {l : List Tok} (h : Tk s a l) : a ≤ s.length := by
  cases h with
  | nil => exact Nat.le_refl _
  | cons q _ => have := q.1; have := q.2.1; omega
theorem k_comments {id : Nat} {h : Heap} {s : Str} {a : Nat} {x : AV} {K : AV → Heap → Prop} (sc : Sc id h s a) (ex : x = .op id 0) (ha : a ≤ s.length) (hp : pk s a ≠ 47) (k : K (.tup []) h) : iCall Tryz.prog (.fn (.func 24) [] []) [x] h K := by
  subst ex
  have p1 : (decide (([47, 42] : Str).length ≤ (s.drop a).length) && decide ((s.drop a).take ([47, 42] : Str).length = [47, 42])) = false := by
    refine pre_no fun q => ?_
    have e : pk s a = pk (s.drop a) 0 := by rw [← pk_drop, Nat.add_zero]
    rw [e] at hp
    cases hd : s.drop a with
    | nil => rw [hd] at q; simp at q
    | cons b l =>
      rw [hd] at q hp
      simp at q
      exact hp (by rw [q.1]; rfl)
  refine a_acall (by kernel_rfl) rfl (K0 := fun v h' => v = .tup [] ∧ h' = h) ?_ ?_
  · refine (V24 _).acall ?_
    unfold W24
    refine iLoop_of (α := Unit) (fun _ => True) (fun _ => []) (fun _ => h) (fun _ => 0) () trivial (Wk.refl _ _ _ (Nat.le_refl _)) ?_
    intro _ _
    refine w_nilF ?_
    refine w_fad rfl ?_
    refine w_load rfl sc rfl ?_
    refine w_nilF ?_
    refine w_fad rfl ?_
    refine w_load rfl sc rfl ?_
    refine a_slS (a := a) (b := s.length) (r := s.drop a) rfl rfl rfl ha (Nat.le_refl _) (by rw [List.take_length]) ?_
    refine w_callQ rfl (by kernel_rfl) (con_pre2 _ _) ?_
    refine a_cond0 rfl p1 ?_
    exact ⟨_, _, Wk.refl _ _ _ (Nat.le_refl _), rfl, rfl⟩
  · rintro _ _ ⟨rfl, rfl⟩
    exact k
/-- What a captured slice holds. -/
def Cp (cap : Nat) (H : Heap) (done : List Tok) : Prop :=
  (done = [] ∧ H[cap]? = some (.blk ⟨31, [.v (.slice none 0 0)], true⟩)) ∨ ∃ tid, H[cap]? = some (.blk ⟨31, [.sb tid 5 (rowsT done)], true⟩) ∧ H[tid]? = some (Ent.tok 45 5 done.length)
omit [Laid] in
theorem Cp.other {cap : Nat} {H H' : Heap} {done : List Tok} (c : Cp cap H done) (hc : H'[cap]? = H[cap]?) (ho : ∀ (tid n : Nat), H[tid]? = some (Ent.tok 45 5 n) → H'[tid]? = some (Ent.tok 45 5 n)) : Cp cap H' done := by
  rcases c with ⟨h1, h2⟩ | ⟨tid, h1, h2⟩
  · exact .inl ⟨h1, by rw [hc]; exact h2⟩
  · exact .inr ⟨tid, by rw [hc]; exact h1, ho _ _ h2⟩
omit [Laid] in
theorem Cp.app {cap : Nat} {H : Heap} {done : List Tok} (c : Cp cap H done) (j : Heap) : Cp cap (H ++ j) done := by
  have hl : ∀ {i : Nat} {x : Ent}, H[i]? = some x → (H ++ j)[i]? = some x := fun h => by
    rw [List.getElem?_append_left (List.getElem?_eq_some_iff.1 h).1]; exact h
  rcases c with ⟨h1, h2⟩ | ⟨tid, h1, h2⟩
  · exact .inl ⟨h1, hl h2⟩
  · exact .inr ⟨tid, hl h1, hl h2⟩
omit [Laid] in
theorem Cp.mv {cap id b : Nat} {s : Str} {H H' : Heap} {a : Nat} {done : List Tok} (c : Cp cap H done) (sc : Sc id H s a) (hne : cap ≠ id) (m : Mv id s b H H') : Cp cap H' done := by
  have hl : cap < H.length := by rcases c with ⟨_, h2⟩ | ⟨_, h2, _⟩ <;> exact (List.getElem?_eq_some_iff.1 h2).1
  refine c.other (m.other hl hne) fun tid n ht => ?_
  rw [m.other (List.getElem?_eq_some_iff.1 ht).1 (fun q => by subst q; unfold Sc at sc; rw [ht] at sc; cases sc)]; exact ht
omit [Laid] in
theorem a_mkTok {x : Tok} {K : AV → Prop} (q : K (.sl 5 [x.row])) : iMkSlP 1 5 (.agg [(u8 0), (.str []), (int 0), (.str []), ff]) [(0, 5, x.av)] K := by
  have e : bfill (rep0 1 (vcells (.agg [(u8 0), (.str []), (int 0), (.str []), ff]))) [(0, 5, x.av)] = some x.row := by simp [bfill, rep0, vcells, setAll, scal]
  unfold iMkSlP; rw [e]; exact q
theorem k_tell {cap id : Nat} {H : Heap} {s : Str} {a : Nat} {done : List Tok} {t : Tok} {y z : AV} {K : AV → Heap → Prop} (c : Cp cap H done) (sc : Sc id H s a) (hne : cap ≠ id) (hn : done.length ≤ 2 ^ 20)
    (k : ∀ H', Cp cap H' (done ++ [t]) → Sc id H' s a → H.length ≤ H'.length → K (.tup []) H') : iCall Tryz.prog (.fn (.func 16) [] [.op cap 0]) [t.av, y, z] H K := by
  have hb : hasBody Tryz.prog 16 = true := by kernel_rfl
  refine ⟨hb, ?_⟩
  show ACall _ _ ([] ++ [t.av, y, z] ++ [.op cap 0]) _ _
  have hl : cap < H.length := by rcases c with ⟨_, h2⟩ | ⟨_, h2, _⟩ <;> exact (List.getElem?_eq_some_iff.1 h2).1
  refine ACall.mono (K := fun v H' => v = .tup [] ∧ Cp cap H' (done ++ [t]) ∧ Sc id H' s a ∧ H.length ≤ H'.length) ?_ (by rintro _ H' ⟨rfl, h1, h2, h3⟩; exact k H' h1 h2 h3)
  refine (V16 t.av y z (.op cap 0)).acall ?_
  unfold W16
  refine n_new (cs := t.row) (n := H.length) (h' := H ++ [.blk ⟨45, t.row, true⟩]) rfl (by simp [scal]) rfl rfl ?_
  have hV : (H ++ [Ent.blk ⟨45, t.row, true⟩])[H.length]? = some (.blk ⟨45, t.row, true⟩) := by simp
  have scA := sc.app [Ent.blk ⟨45, t.row, true⟩]
  rcases c.app [Ent.blk ⟨45, t.row, true⟩] with ⟨rfl, h2⟩ | ⟨tid, h1, h2⟩
  · refine w_load rfl h2 rfl ?_
    refine w_loadA rfl hV (by simp) ?_
    refine a_mkTok ?_
    have ap : ∀ {KH : AV → Heap → Prop}, KH (.sb (H ++ [Ent.blk ⟨45, t.row, true⟩]).length 5 [t.row]) (H ++ [Ent.blk ⟨45, t.row, true⟩] ++ [Ent.tok 45 5 1]) → iApp false 45 5 56 (.v (.slice none 0 0)) (.sl 5 [t.row]) (H ++ [Ent.blk ⟨45, t.row, true⟩]) KH := by
      intro KH q
      unfold iApp iAppTo
      rw [srcR_sl]
      exact ⟨rowsT_ok [t], ⟨by simp [maxLen], by simp⟩, q⟩
    refine ap ?_
    have hlt : cap < (H ++ [Ent.blk ⟨45, t.row, true⟩] ++ [Ent.tok 45 5 1]).length := by simp; omega
    refine n_store (cs := [.sb (H ++ [Ent.blk ⟨45, t.row, true⟩]).length 5 [t.row]]) (h' := (H ++ [Ent.blk ⟨45, t.row, true⟩] ++ [Ent.tok 45 5 1]).set cap (.blk ⟨31, [.sb (H ++ [Ent.blk ⟨45, t.row, true⟩]).length 5 [t.row]], true⟩)) rfl (by rw [List.getElem?_append_left (by simp; omega)]; exact h2) rfl rfl (by simp) rfl rfl rfl ?_
    refine ⟨_, _, Wk.refl _ _ _ (by simp), rfl, .inr ⟨_, List.getElem?_set_self hlt, ?_⟩, ?_, by simp⟩
    · rw [List.getElem?_set_ne (by simp; omega), List.getElem?_append_right (Nat.le_refl _)]; simp
    · unfold Sc
      rw [List.getElem?_set_ne hne]
      exact scA.app _
  · refine w_load rfl h1 rfl ?_
    refine w_loadA rfl hV (by simp) ?_
    refine a_mkTok ?_
    have htc : tid ≠ cap := fun q => by subst q; rw [h2] at h1; cases h1
    have hti : tid ≠ id := fun q => by subst q; unfold Sc at scA; rw [h2] at scA; cases scA
    have hl2 := (List.getElem?_eq_some_iff.1 h2).1
    refine n_appB (rows := [t.row]) (k := done.length) rfl h2 (by simp) srcR_sl (rowsT_ok [t]) ⟨by unfold maxLen; simp; omega, by simp; omega⟩ rfl ?_
    refine n_store (cs := [.sb tid 5 (rowsT done ++ [t.row])]) (h' := ((H ++ [Ent.blk ⟨45, t.row, true⟩]).set tid (Ent.tok 45 5 (done.length + [t.row].length))).set cap (.blk ⟨31, [.sb tid 5 (rowsT done ++ [t.row])], true⟩)) rfl (by rw [List.getElem?_set_ne htc]; exact h1) rfl rfl (by simp) rfl rfl rfl ?_
    refine ⟨_, _, Wk.refl _ _ _ (by simp), rfl, .inr ⟨tid, ?_, ?_⟩, ?_, by simp⟩
    · rw [List.getElem?_set_self (by simp; omega)]; simp
    · rw [List.getElem?_set_ne (Ne.symm htc), List.getElem?_set_self hl2]; simp
    · unfold Sc
      rw [List.getElem?_set_ne hne, List.getElem?_set_ne hti]
      exact scA
end
variable [MaxL]
theorem con_Tokens {s : Str} {l : List Tok} (hok : ∀ x ∈ s, okB x = true) (hs : s.length ≤ 4000) (tk : Tk s 0 l) (h0 : pk s 0 ≠ 47) (hl : l.length ≤ 1500) (hn : l ≠ []) : Con Tryz.prog 8 [.str s] (.tup [.sl 5 (rowsT l), int 0]) := by
  refine (V8 _).gives (by simp) (by simp only [Aw.Pure, PureL, and_true]; exact rowsT_pure l) ?_
  unfold W8
  refine n_new (cs := [.v (.slice none 0 0)]) (n := 0) (h' := [.blk ⟨31, [.v (.slice none 0 0)], true⟩]) rfl rfl rfl rfl ?_
  have read : ACall Tryz.prog 15 [.str s, .fn (.func 16) [] [.op 0 0]] [.blk ⟨31, [.v (.slice none 0 0)], true⟩] fun v H => v = int 0 ∧ Cp 0 H l := by
    refine (V15 _ _).acall ?_
    unfold W15
    refine iCall_con (by kernel_rfl) (con59 s hok hs) ?_
    refine w_extr rfl rfl ?_
    refine w_extr rfl rfl ?_
    refine a_neq rfl rfl ?_
    refine a_cond0 rfl rfl ?_
    refine a_build rfl ?_
    refine n_new (cs := [.str s, int 0]) (n := 1) (h' := [.blk ⟨31, [.v (.slice none 0 0)], true⟩, scB s 0]) rfl rfl rfl rfl ?_
    have sc0 : Sc 1 [Ent.blk ⟨31, [.v (.slice none 0 0)], true⟩, scB s 0] s 0 := rfl
    refine k_comments sc0 rfl (Nat.zero_le _) h0 ?_
    refine iLoop_of (α := List Tok × List Tok × Nat × Heap) (fun x => l = x.1 ++ x.2.1 ∧ Tk s x.2.2.1 x.2.1 ∧ Sc 1 x.2.2.2 s x.2.2.1 ∧ Cp 0 x.2.2.2 x.1 ∧ 2 ≤ x.2.2.2.length) (fun x => [int x.1.length]) (fun x => x.2.2.2) (fun x => x.2.1.length) ([], l, 0, [Ent.blk ⟨31, [.v (.slice none 0 0)], true⟩, scB s 0]) ⟨rfl, tk, sc0, .inl ⟨rfl, rfl⟩, Nat.le_refl _⟩ (Wk.refl _ _ _ (Nat.le_refl _)) ?_
    rintro ⟨done, rest, a, H⟩ ⟨el, tk, sc, cp, hH⟩
    simp only at el tk sc cp hH ⊢
    refine w_nilF ?_
    refine w_fad rfl ?_
    refine w_load rfl sc rfl ?_
    refine a_lenS rfl fun _ => ?_
    refine a_lss rfl rfl ?_
    have hdl : done.length ≤ 1500 := by have := congrArg List.length el; simp at this; omega
    cases tk with
    | nil =>
      refine a_cond0 rfl (decide_eq_false (by omega)) ?_
      refine ⟨_, _, Wk.refl _ _ _ (by simp; omega), rfl, ?_⟩
      rw [el, List.append_nil]; exact cp
    | @cons _ b t rest nx tk =>
      obtain ⟨hab, hb, hp, nx⟩ := nx
      have hd2 : done.length + 1 ≤ 1500 := by have := congrArg List.length el; simp at this; omega
      refine a_cond1 rfl (decide_eq_true (by omega)) ?_
      refine w_add rfl rfl (by unfold inI; omega) ?_
      refine a_gtr rfl rfl ?_
      refine a_cond0 rfl (decide_eq_false (by omega)) ?_
      refine w_nilF ?_
      refine w_fad rfl ?_
      refine w_load rfl sc rfl ?_
      refine nx 1 H _ sc fun H1 m => ?_
      have sc1 := m.sc sc
      have cp1 := cp.mv sc (by decide) m
      have hH1 := m.len
      refine n_new (cs := [u8 0, .str [], int 0, .str [], ff]) (n := H1.length) (h' := H1 ++ [tokC 0 [] 0 [] false]) rfl (by simp [scal]) rfl rfl ?_
      have hV : (H1 ++ [tokC 0 [] 0 [] false])[H1.length]? = some (tokC 0 [] 0 [] false) := by simp
      refine n_store (cs := t.row) (h' := H1 ++ [.blk ⟨45, t.row, true⟩]) rfl hV rfl rfl (by simp) rfl (by simp [scal]) (by rw [List.set_append_right _ _ (Nat.le_refl _)]; simp) ?_
      refine w_loadA (b := ⟨45, t.row, true⟩) rfl (by simp) (by simp) ?_
      have sc2 := sc1.app [Ent.blk ⟨45, t.row, true⟩]
      have cp2 := cp1.app [Ent.blk ⟨45, t.row, true⟩]
      refine w_nilF ?_
      refine w_fad rfl ?_
      refine w_load rfl sc2 rfl ?_
      refine k_tell (t := t) cp2 sc2 (by decide) (by omega) fun H3 cp3 sc3 hl3 => ?_
      refine k_comments sc3 rfl hb hp ?_
      refine ⟨trivial, (done ++ [t], rest, b, H3), ⟨by rw [el]; simp, tk, sc3, cp3, by show 2 ≤ H3.length; simp at hl3; omega⟩, ?_, by simp⟩
      simp only [List.length_append, List.length_cons, List.length_nil]
      exact Wk.refl _ _ _ (by simp at hl3; simp; omega)
  refine a_acall (by kernel_rfl) rfl read ?_
  rintro _ H ⟨rfl, cp⟩
  refine a_neq rfl rfl ?_
  refine a_cond0 rfl rfl ?_
  rcases cp with ⟨h1, _⟩ | ⟨tid, h1, h2⟩
  · exact absurd h1 hn
  · refine w_load rfl h1 rfl ?_
    refine Gives.of ?_
    simp only [tl, tlA, tlL, Nat.not_lt_zero, if_false]
    rw [tlR_pure _ _ _ _ (rowsT_pure l)]
    exact Le.refl _
end Go.Proofs.YtfijncpmhnnpiaaGreatDoor
end
