/-
  What stands behind a call or a round is told anew: memory that is written no more as values, slices that grow no more as they are.
  No conditions: definitions and lemmas over any program.
-/
import Derived.Test.YtpggiljgcckmoaaGreatDoorBody
namespace Go.Aw
open Go Go.RowKit

/-! ### Less is said -/
mutual
/-- The second says no more than the first. -/
def Le : AV → AV → Prop
  | _, .any => True
  | .agg xs, .agg ys => LeL xs ys
  | .tup xs, .tup ys => LeL xs ys
  | .emp, .sl _ rows => rows = []
  | .sb _ s r, .sl s' r' => s = s' ∧ r = r'
  | a, b => a = b
def LeL : List AV → List AV → Prop
  | [], [] => True
  | a :: as, b :: bs => Le a b ∧ LeL as bs
  | _, _ => False
end
theorem Le.refl (a : AV) : Le a a :=
  AV.rec (motive_1 := fun a => Le a a) (motive_2 := fun l => LeL l l) (motive_3 := fun _ => True)
      (fun _ => rfl) (fun _ => rfl) trivial (fun _ h => h) (fun _ h => h) rfl (fun _ _ _ => rfl) (fun _ _ _ _ => rfl) (fun _ _ => rfl) (fun _ _ _ _ => rfl) (fun _ _ => rfl) (fun _ _ _ _ _ => rfl) (fun _ _ _ => rfl)
      trivial (fun _ _ h k => ⟨h, k⟩) trivial (fun _ _ _ _ => trivial) a
theorem Le.any (a : AV) : Le a .any := by cases a <;> trivial
theorem Le.inv {a b : AV} (h : Le a b) : b = .any ∨ a = b ∨ (∃ xs ys, a = .agg xs ∧ b = .agg ys ∧ LeL xs ys) ∨ (∃ xs ys, a = .tup xs ∧ b = .tup ys ∧ LeL xs ys) ∨ (a = .emp ∧ ∃ s, b = .sl s []) ∨ ∃ id s r, a = .sb id s r ∧ b = .sl s r := by
  unfold Le at h
  split at h
  · exact .inl rfl
  · exact .inr (.inr (.inl ⟨_, _, rfl, rfl, h⟩))
  · exact .inr (.inr (.inr (.inl ⟨_, _, rfl, rfl, h⟩)))
  · subst h; exact .inr (.inr (.inr (.inr (.inl ⟨rfl, _, rfl⟩))))
  · obtain ⟨rfl, rfl⟩ := h; exact .inr (.inr (.inr (.inr (.inr ⟨_, _, _, rfl, rfl⟩))))
  · exact .inr (.inl h)
theorem Rep.le {ι : List Ix} {S : Stab} {w : World} (a b : AV) (y : Value) (h : Le a b) (r : Rep ι S w a y) : Rep ι S w b y := by
  have base : ∀ {a b : AV} {y : Value}, (∀ xs ys, a = .agg xs → b = .agg ys → LeL xs ys → Rep ι S w b y) → (∀ xs ys, a = .tup xs → b = .tup ys → LeL xs ys → Rep ι S w b y) → Le a b → Rep ι S w a y → Rep ι S w b y := by
    intro a b y h1 h2 h r
    rcases h.inv with rfl | rfl | ⟨xs, ys, e1, e2, k⟩ | ⟨xs, ys, e1, e2, k⟩ | ⟨rfl, s, rfl⟩ | ⟨id, s, rr, rfl, rfl⟩
    · simp
    · exact r
    · exact h1 xs ys e1 e2 k
    · exact h2 xs ys e1 e2 k
    · rw [Rep] at *
      obtain ⟨a, e⟩ := r
      exact ⟨a, 0, e, Nat.le_refl _, Nat.zero_le _, .inl rfl⟩
    · rw [Rep] at *
      exact r.1
  revert b y
  refine AV.rec (motive_1 := fun a => ∀ b y, Le a b → Rep ι S w a y → Rep ι S w b y) (motive_2 := fun as => ∀ bs vs, LeL as bs → RepL ι S w as vs → RepL ι S w bs vs) (motive_3 := fun _ => True) ?_ ?_ ?_ ?_ ?_ ?_ ?_ ?_ ?_ ?_ ?_ ?_ ?_ ?_ ?_ ?_ ?_ a
  case refine_4 =>
    intro cs ih b y h r
    refine base (fun xs ys e1 e2 k => ?_) (fun _ _ e1 => by cases e1) h r
    cases e1; subst e2
    rw [Rep] at *
    obtain ⟨vs, e, q⟩ := r
    exact ⟨vs, e, ih _ vs k q⟩
  case refine_5 =>
    intro cs ih b y h r
    refine base (fun _ _ e1 => by cases e1) (fun xs ys e1 e2 k => ?_) h r
    cases e1; subst e2
    rw [Rep] at *
    obtain ⟨vs, e, q⟩ := r
    exact ⟨vs, e, ih _ vs k q⟩
  case refine_14 =>
    intro bs vs h r
    cases bs with
    | nil => exact r
    | cons => simp [LeL] at h
  case refine_15 =>
    intro a as iha ihs bs vs h r
    cases bs with
    | nil => simp [LeL] at h
    | cons b bs =>
      rw [LeL] at h
      cases vs with
      | nil => simp at r
      | cons v vs =>
        simp only [RepL_cons] at r ⊢
        exact ⟨iha b v h.1 r.1, ihs bs vs h.2 r.2⟩
  case refine_16 => trivial
  case refine_17 => intros; trivial
  all_goals
    intros
    rename_i h r
    exact base (fun _ _ e1 => by cases e1) (fun _ _ e1 => by cases e1) h r
theorem RepL.le {ι : List Ix} {S : Stab} {w : World} : ∀ (as bs : List AV) (vs : List Value), LeL as bs → RepL ι S w as vs → RepL ι S w bs vs
  | [], [], vs, _, r => r
  | [], _ :: _, _, h, _ => by simp [LeL] at h
  | _ :: _, [], _, h, _ => by simp [LeL] at h
  | a :: as, b :: bs, [], _, r => by simp at r
  | a :: as, b :: bs, v :: vs, h, r => by
    rw [LeL] at h
    simp only [RepL_cons] at r ⊢
    exact ⟨Rep.le a b v h.1 r.1, RepL.le as bs vs h.2 r.2⟩

variable [Laid]
/-! ### Told -/
section
variable (f : AV → AV) (L : Nat) (h : Heap)
mutual
/-- What names places from 'L' on is told as it is; 'f' for what lies there. -/
def tlA : AV → AV
  | .v x => .v x
  | .str l => .str l
  | .any => .any
  | .emp => .emp
  | .agg cs => .agg (tlL cs)
  | .tup cs => .tup (tlL cs)
  | .ip cs => .ip (tlL cs)
  | .sl sz rows => .sl sz (tlR rows)
  | .sb id sz rows => if id < L then .sb id sz (tlR rows) else .sl sz (tlR rows)
  | .own id off len sz => if id < L then .own id off len sz else match h[id]? with
    | some (.blk b) => if off + len * sz ≤ b.cells.length then .sl sz ((chunks sz len (b.cells.drop off)).map (List.map f)) else .any
    | _ => .any
  | .op id off => if id < L then .op id off else match h[id]? with
    | some (.blk b) => .ip ((b.cells.drop off).map f)
    | _ => .any
  | .fn g xs ys => .fn g (tlL xs) (tlL ys)
  | .ifc t x => .ifc t (tlA x)
def tlL : List AV → List AV
  | [] => []
  | a :: as => tlA a :: tlL as
def tlR : List (List AV) → List (List AV)
  | [] => []
  | r :: rs => tlL r :: tlR rs
end
end
def tl (L : Nat) (h : Heap) : Nat → AV → AV
  | 0 => tlA (fun _ => .any) L h
  | d + 1 => tlA (tl L h d) L h
def tlE (L : Nat) (h : Heap) : Ent → Ent
  | .blk b => .blk { b with cells := b.cells.map (tl L h 3) }
  | x => x
/-- The first 'L' places. -/
def tlH (L : Nat) (h : Heap) : Heap := (h.take L).map (tlE L h)

omit [Laid] in
theorem tlL_map (f : AV → AV) (L : Nat) (h : Heap) : ∀ l, tlL f L h l = l.map (tlA f L h)
  | [] => rfl
  | a :: as => by rw [tlL, tlL_map f L h as]; rfl
omit [Laid] in
theorem tlR_map (f : AV → AV) (L : Nat) (h : Heap) : ∀ l, tlR f L h l = l.map (List.map (tlA f L h))
  | [] => rfl
  | a :: as => by rw [tlR, tlR_map f L h as, tlL_map]; rfl

/-- The cells of what lies from 'L' on are written no more. -/
def stabT (L : Nat) (ι : List Ix) (S : Stab) (h : Heap) : Stab := fun b o => S b o ∨ ∃ id x, L ≤ id ∧ h[id]? = some (.blk x) ∧ ι[id]? = some (.blk b) ∧ o < x.cells.length

section
variable {base : Nat} {ι : List Ix} {S : Stab} {w : World} {h : Heap} {L : Nat}
theorem cells_told (hh : HOK base ι S w h) {f : AV → AV} (hf : ∀ v y, Rep ι S w v y → Rep (ι.take L) (stabT L ι S h) w (f v) y) {id : Nat} (hid : L ≤ id) {x : Blk} (e : h[id]? = some (.blk x)) {b : Nat} (hb : ι[id]? = some (.blk b)) (off : Nat) :
    RepC (ι.take L) (stabT L ι S h) w ((x.cells.drop off).map f) b off := by
  obtain ⟨b', arr, fz, h1, h2, h3, h4, h5, h6, h7, h8, h9⟩ := hh.live id x e
  rw [hb] at h1; cases h1
  refine RepC.mk fun i c ec => ?_
  simp only [List.getElem?_map, Option.map_eq_some_iff, List.getElem?_drop] at ec
  obtain ⟨c0, ec0, rfl⟩ := ec
  obtain ⟨v, e1, r⟩ := h6 (off + i) c0 ec0
  exact ⟨v, by rw [cell_at h3]; exact e1, .inr ⟨id, x, hid, e, hb, (List.getElem?_eq_some_iff.1 ec0).1⟩, hf c0 v r⟩

mutual
theorem Rep.tlA (hh : HOK base ι S w h) {f : AV → AV} (hf : ∀ v y, Rep ι S w v y → Rep (ι.take L) (stabT L ι S h) w (f v) y) : ∀ (a : AV) (y : Value), Rep ι S w a y → Rep (ι.take L) (stabT L ι S h) w (Aw.tlA f L h a) y
  | .v x, y, k => by simpa [Aw.tlA] using k
  | .str x, y, k => by simpa [Aw.tlA] using k
  | .any, y, k => by simp [Aw.tlA]
  | .emp, y, k => by simp only [Aw.tlA]; rw [Rep] at *; exact k
  | .agg cs, y, k => by simp only [Aw.tlA]; rw [Rep] at *; obtain ⟨vs, e, k⟩ := k; exact ⟨vs, e, RepL.tlA hh hf cs vs k⟩
  | .tup cs, y, k => by simp only [Aw.tlA]; rw [Rep] at *; obtain ⟨vs, e, k⟩ := k; exact ⟨vs, e, RepL.tlA hh hf cs vs k⟩
  | .ip cs, y, k => by simp only [Aw.tlA]; rw [Rep] at *; obtain ⟨b, off, e, k⟩ := k; exact ⟨b, off, e, RepC.tlA hh hf cs b off k⟩
  | .sl sz rows, y, k => by
    simp only [Aw.tlA]
    rw [Rep] at *
    obtain ⟨a, cap, e, h1, h2, h3⟩ := k
    have hl : (tlR f L h rows).length = rows.length := by rw [tlR_map, List.length_map]
    refine ⟨a, cap, by rw [hl]; exact e, by rw [hl]; exact h1, h2, ?_⟩
    rcases h3 with rfl | ⟨b, off, ea, hr⟩
    · exact .inl rfl
    · exact .inr ⟨b, off, ea, RepR.tlA hh hf sz rows b off hr⟩
  | .sb tid sz rows, y, k => by
    simp only [Aw.tlA]
    rw [Rep] at k
    obtain ⟨⟨a, cap, e, h1, h2, h3⟩, m, v, t1, t2, t3⟩ := k
    have hl : (tlR f L h rows).length = rows.length := by rw [tlR_map, List.length_map]
    have told : ∃ a cap, y = .slice a (tlR f L h rows).length cap ∧ (tlR f L h rows).length ≤ cap ∧ cap ≤ maxLen ∧ (tlR f L h rows = [] ∨ ∃ b off, a = some ⟨b, off, none⟩ ∧ RepR (ι.take L) (stabT L ι S h) w sz (tlR f L h rows) b off) := by
      refine ⟨a, cap, by rw [hl]; exact e, by rw [hl]; exact h1, h2, ?_⟩
      rcases h3 with rfl | ⟨b, off, ea, hr⟩
      · exact .inl rfl
      · exact .inr ⟨b, off, ea, RepR.tlA hh hf sz rows b off hr⟩
    split
    · rename_i hlt
      rw [Rep]
      exact ⟨told, m, v, by rw [List.getElem?_take, if_pos hlt]; exact t1, by rw [hl]; exact t2, by rw [hl]; exact t3⟩
    · rw [Rep]; exact told
  | .own tid off len sz, y, k => by
    simp only [Aw.tlA]
    split
    · rename_i hlt
      rw [Rep] at *
      obtain ⟨b, a, cap, n, ty, h1, h2⟩ := k
      exact ⟨b, a, cap, n, ty, by rw [List.getElem?_take, if_pos hlt]; exact h1, h2⟩
    · rename_i hge
      split
      · rename_i x e
        split
        · rename_i hfit
          rw [Rep] at *
          obtain ⟨b, a, cap, n, ty, h1, h2, h3, h4, h5, _⟩ := k
          obtain ⟨f1, f2⟩ := chunks_flat sz len (x.cells.drop off) (by simp; omega)
          have hcl := chunks_len sz len (x.cells.drop off)
          refine ⟨a, cap, by rw [List.length_map, hcl]; exact h2, by rw [List.length_map, hcl]; exact h3, h4, ?_⟩
          rcases h5 with h5 | h5
          · left
            have : len = 0 := by omega
            subst this; simp [chunks]
          · right
            refine ⟨b, off, h5, RepR.of_flat (fun r hr => ?_) ?_⟩
            · obtain ⟨r0, hr0, rfl⟩ := List.mem_map.1 hr
              rw [List.length_map]; exact f2 r0 hr0
            · rw [← List.map_flatten, f1]
              have := cells_told hh hf (Nat.le_of_not_lt hge) e h1 off
              refine RepC.mk fun i c ec => this.get i c ?_
              rw [List.getElem?_map, List.getElem?_take] at ec
              rw [List.getElem?_map]
              split at ec
              · exact ec
              · cases ec
        · simp
      · simp
  | .op tid off, y, k => by
    simp only [Aw.tlA]
    split
    · rename_i hlt
      rw [Rep] at *
      obtain ⟨b, h1, h2⟩ := k
      exact ⟨b, by rw [List.getElem?_take, if_pos hlt]; exact h1, h2⟩
    · rename_i hge
      split
      · rename_i x e
        rw [Rep] at *
        obtain ⟨b, h1, h2⟩ := k
        exact ⟨b, off, h2, cells_told hh hf (Nat.le_of_not_lt hge) e h1 off⟩
      · simp
  | .fn g xs ys, y, k => by simp only [Aw.tlA]; rw [Rep] at *; obtain ⟨vs, us, e, k1, k2⟩ := k; exact ⟨vs, us, e, RepL.tlA hh hf xs vs k1, RepL.tlA hh hf ys us k2⟩
  | .ifc t x, y, k => by simp only [Aw.tlA]; rw [Rep] at *; obtain ⟨v, e, k⟩ := k; exact ⟨v, e, Rep.tlA hh hf x v k⟩
theorem RepL.tlA (hh : HOK base ι S w h) {f : AV → AV} (hf : ∀ v y, Rep ι S w v y → Rep (ι.take L) (stabT L ι S h) w (f v) y) : ∀ (as : List AV) (vs : List Value), RepL ι S w as vs → RepL (ι.take L) (stabT L ι S h) w (tlL f L h as) vs
  | [], vs, k => by simpa [tlL] using k
  | a :: as, [], k => by simp at k
  | a :: as, v :: vs, k => by
    rw [tlL]
    simp only [RepL_cons] at k ⊢
    exact ⟨Rep.tlA hh hf a v k.1, RepL.tlA hh hf as vs k.2⟩
theorem RepC.tlA (hh : HOK base ι S w h) {f : AV → AV} (hf : ∀ v y, Rep ι S w v y → Rep (ι.take L) (stabT L ι S h) w (f v) y) : ∀ (cs : List AV) (b off : Nat), RepC ι S w cs b off → RepC (ι.take L) (stabT L ι S h) w (tlL f L h cs) b off
  | [], b, off, k => by simp [tlL, RepC]
  | c :: cs, b, off, k => by
    rw [tlL]
    rw [RepC] at *
    obtain ⟨⟨u, h1, h2, h3⟩, k2⟩ := k
    exact ⟨⟨u, h1, .inl h2, Rep.tlA hh hf c u h3⟩, RepC.tlA hh hf cs b (off + 1) k2⟩
theorem RepR.tlA (hh : HOK base ι S w h) {f : AV → AV} (hf : ∀ v y, Rep ι S w v y → Rep (ι.take L) (stabT L ι S h) w (f v) y) (sz : Nat) : ∀ (rows : List (List AV)) (b off : Nat), RepR ι S w sz rows b off → RepR (ι.take L) (stabT L ι S h) w sz (tlR f L h rows) b off
  | [], b, off, k => by simp [tlR, RepR]
  | r :: rs, b, off, k => by
    rw [tlR]
    rw [RepR] at *
    exact ⟨by rw [tlL_map, List.length_map]; exact k.1, RepC.tlA hh hf r b off k.2.1, RepR.tlA hh hf sz rs b (off + sz) k.2.2⟩
end

theorem Rep.tl (hh : HOK base ι S w h) : ∀ (d : Nat) (v : AV) (y : Value), Rep ι S w v y → Rep (ι.take L) (stabT L ι S h) w (Aw.tl L h d v) y
  | 0, v, y, k => Rep.tlA hh (fun _ _ _ => by simp) v y k
  | d + 1, v, y, k => Rep.tlA hh (Rep.tl hh d) v y k

theorem HOK.told (hh : HOK base ι S w h) (hL : L ≤ h.length) : Evo L base ι S w (ι.take L) (stabT L ι S h) w ∧ HOK base (ι.take L) (stabT L ι S h) w (tlH L h) := by
  have pre : ∀ {i : Nat}, i < L → (ι.take L)[i]? = ι[i]? := fun q => by rw [List.getElem?_take, if_pos q]
  have ent : ∀ {i : Nat} {x : Ent}, (tlH L h)[i]? = some x → i < L ∧ ∃ y, h[i]? = some y ∧ x = tlE L h y := by
    intro i x e
    simp only [tlH, List.getElem?_map, Option.map_eq_some_iff, List.getElem?_take] at e
    obtain ⟨y, e1, rfl⟩ := e
    split at e1
    · rename_i q; exact ⟨q, y, e1, rfl⟩
    · cases e1
  have alv : ∀ {i : Nat}, alive (tlH L h)[i]? → i < L ∧ alive h[i]? := by
    intro i ha
    cases e : (tlH L h)[i]? with
    | none => rw [e] at ha; exact ha.elim
    | some x =>
      obtain ⟨q, y, e1, rfl⟩ := ent e
      refine ⟨q, ?_⟩
      rw [e] at ha
      rw [e1]
      cases y <;> first | exact trivial | exact ha
  have newS : ∀ {b o : Nat}, stabT L ι S h b o → S b o ∨ (∃ id, L ≤ id ∧ alive h[id]? ∧ ixB ι[id]? b) := by
    rintro b o (q | ⟨id, x, h1, h2, h3, _⟩)
    · exact .inl q
    · exact .inr ⟨id, h1, by rw [h2]; exact trivial, by rw [h3]; rfl⟩
  have old : ∀ {i b o : Nat}, i < L → alive h[i]? → ixB ι[i]? b → stabT L ι S h b o → S b o := by
    intro i b o hi ha hb hs
    rcases newS hs with q | ⟨id, h1, h2, h3⟩
    · exact q
    · have := hh.inj i id b ha h2 hb h3
      omega
  have hE : Evo L base ι S w (ι.take L) (stabT L ι S h) w :=
    ⟨fun i hi => IxLe.of_eq (pre hi), fun _ _ q => .inl q, fun b o q => (newS q).imp (fun z => z) fun ⟨id, _, h2, h3⟩ => (hh.ixlt h2 h3).1, fun _ _ _ => rfl, fun _ _ q => q, Below.refl _ _⟩
  refine ⟨hE, ⟨by simp [tlH, hh.len], fun id x e => ?_, fun id t sz n e => ?_, fun i j b ai aj hi hj => ?_, fun b o q => ?_, hh.bas, hh.gl.evo hE⟩⟩
  · obtain ⟨q, y, e1, e2⟩ := ent e
    cases y with
    | tok => cases e2
    | dead => cases e2
    | blk y =>
      cases e2
      obtain ⟨b, arr, fz, h1, h2, h3, h4, h5, h6, h7, h8, h9⟩ := hh.live id y e1
      have hS : ∀ o, stabT L ι S h b o → S b o := fun o => old q (by rw [e1]; exact trivial) (by rw [h1]; rfl)
      refine ⟨b, arr, fz, (pre q).trans h1, h2, h3, h4, by simpa using h5, fun i c ec => ?_, fun hw o ho => h7 hw o (hS o ho), fun o ho => by simpa using h8 o (hS o ho), fun hw o ho => .inl (h9 hw o (by simpa using ho))⟩
      simp only [List.getElem?_map, Option.map_eq_some_iff] at ec
      obtain ⟨c0, ec0, rfl⟩ := ec
      obtain ⟨v, e3, r⟩ := h6 i c0 ec0
      exact ⟨v, e3, Rep.tl hh 3 c0 v r⟩
  · obtain ⟨q, y, e1, e2⟩ := ent e
    cases y with
    | blk => cases e2
    | dead => cases e2
    | tok =>
      cases e2
      obtain ⟨v, h1, h2⟩ := hh.tok id _ _ _ e1
      exact ⟨v, (pre q).trans h1, h2.keep fun b hb _ _ => ⟨rfl, fun o => old q (by rw [e1]; exact trivial) (by rw [h1]; exact hb)⟩⟩
  · obtain ⟨q1, a1⟩ := alv ai
    obtain ⟨q2, a2⟩ := alv aj
    rw [pre q1] at hi
    rw [pre q2] at hj
    exact hh.inj i j b a1 a2 hi hj
  · rcases newS q with z | ⟨id, _, h2, h3⟩
    · exact hh.stb b o z
    · exact (hh.ixlt h2 h3).2
end

/-! ### From one state to one that says less -/
theorem Wk.refl (n : Nat) (s : List AV) (h : Heap) (hn : n ≤ h.length) : Wk n s h s h := ⟨hn, rfl, fun _ ι S _ _ r k => ⟨ι, S, Evo.refl _ _ _ _ _, r, k⟩⟩
theorem Wk.trans {n : Nat} {s s' s'' : List AV} {h h' h'' : Heap} (a : Wk n s h s' h') (b : Wk n s' h' s'' h'') : Wk n s h s'' h'' :=
  ⟨b.1, b.2.1.trans a.2.1, fun base ι S w vs r k =>
    let ⟨ι', S', e1, r1, k1⟩ := a.2.2 base ι S w vs r k
    let ⟨ι'', S'', e2, r2, k2⟩ := b.2.2 base ι' S' w vs r1 k1
    ⟨ι'', S'', e1.trans e2, r2, k2⟩⟩
omit [Laid] in
theorem LeL.len : ∀ {as bs : List AV}, LeL as bs → bs.length = as.length
  | [], [], _ => rfl
  | [], _ :: _, h => by simp [LeL] at h
  | _ :: _, [], h => by simp [LeL] at h
  | _ :: _, _ :: _, h => by rw [LeL] at h; simp [h.2.len]
theorem Wk.le {n : Nat} {s s' : List AV} {h : Heap} (hn : n ≤ h.length) (hs : LeL s s') : Wk n s h s' h :=
  ⟨hn, hs.len, fun _ ι S _ vs r k => ⟨ι, S, Evo.refl _ _ _ _ _, RepL.le s s' vs hs r, k⟩⟩
theorem Wk.tell {n : Nat} {s : List AV} {h : Heap} (hn : n ≤ h.length) : Wk n s h (s.map (tl n h 3)) (tlH n h) :=
  ⟨by simp [tlH]; omega, by simp, fun base ι S w vs r k => by
    obtain ⟨e, k'⟩ := k.told hn
    refine ⟨_, _, e, ?_, k'⟩
    have := RepL.tlA (L := n) (f := tl n h 2) k (Rep.tl k 2) s vs r
    rwa [tlL_map] at this⟩
/-- Behind a round, or a call: what lies behind the first 'n' places is told as it is. -/
theorem Wk.end {n : Nat} {s s' : List AV} {h h' : Heap} (hn : n ≤ h.length) (hs : LeL (s.map (tl n h 3)) s') (hh : tlH n h = h') : Wk n s h s' h' := by
  subst hh
  exact (Wk.tell hn).trans (Wk.le (by simp [tlH]; omega) hs)
/-- Nothing is there: it may grow from now on. -/
theorem Wk.tok {n : Nat} {s : List AV} {h : Heap} (hn : n ≤ h.length) (i e sz : Nat) (hi : s[i]? = some .emp) : Wk n s h (s.set i (.sb h.length sz [])) (h ++ [.tok e sz 0]) := by
  refine ⟨by simp; omega, by simp, fun base ι S w vs r k => ?_⟩
  obtain ⟨v, hv, rv⟩ := r.get i _ hi
  rw [Rep] at rv
  obtain ⟨a, rfl⟩ := rv
  have hb := k.begin (e := e) (sz := sz) (a := a)
  have hE : Evo ι.length base ι S w (ι ++ [.tok 0 (.slice a 0 0)]) S w := Evo.grow _
  have r2 := (RepL.evo hE (Nat.le_refl _) s vs r).set i (.sb h.length sz []) (.slice a 0 0) (by rw [← k.len]; exact Rep.begin ι S w sz a)
  have : vs.set i (.slice a 0 0) = vs := by
    refine List.ext_getElem? fun j => ?_
    by_cases q : j = i
    · subst q; rw [List.getElem?_set_self (List.getElem?_eq_some_iff.1 hv).1, hv]
    · rw [List.getElem?_set_ne (Ne.symm q)]
  rw [this] at r2
  exact ⟨_, S, hE.mono (by rw [k.len]; exact hn) (Nat.le_refl _), r2, hb⟩

/-- A contract out of what the body asks. -/
theorem FnOK.con {P : Program} {f : FuncId} {c : Code} {n : Nat} {rs : List ResultVar} (F : FnOK P f c n rs) (t : An) {args : List AV} {r : AV} (hl : args.length ≤ n) (pa : PureL args) (pr : Pure r)
    (q : ivc P c t (bodyQ P rs fun r' h' => ∃ r'' h'', Wk ([] : Heap).length [r'] h' [r''] h'' ∧ r'' = r) ⟨n, args0 args 0, []⟩) : Con P f args r :=
  ⟨pa, pr, F.acall t hl q⟩
/-- What it hands back is told by this. -/
def Ret (r : AV) (r' : AV) (h' : Heap) : Prop := Le (tl 0 h' 3 r') r
theorem Ret.wk {r r' : AV} {h' : Heap} (q : Ret r r' h') : ∃ r'' h'', Wk ([] : Heap).length [r'] h' [r''] h'' ∧ r'' = r :=
  ⟨r, _, Wk.end (Nat.zero_le _) (by simp only [List.map_cons, List.map_nil, LeL]; exact ⟨q, trivial⟩) rfl, rfl⟩
theorem Body.con {P : Program} {f : FuncId} {args : List AV} {W : Heap → (AV → Heap → Prop) → Prop} (b : Body P f args W) {r : AV} (pa : PureL args) (pr : Pure r) (q : W [] fun r' h' => ∃ r'' h'', Wk ([] : Heap).length [r'] h' [r''] h'' ∧ r'' = r) : Con P f args r :=
  ⟨pa, pr, b.acall q⟩
end Go.Aw
