/-
 wide.decide: what the last declaration of a name says,below an origin.
 No conditions: a contract over its callees'.
-/
import Derived.Test.YtfageokhpklkbaaGreatDoorBwd
import Derived.Deep.WholeRow
set_option linter.unusedVariables false
set_option linter.unusedSimpArgs false
namespace Go.Proofs.YtfageokhpklkbaaGreatDoor
open Go Go.RowKit Go.Shelf
attribute [local go_sem] Oper.semAt_some
abbrev dD (l : List UInt8) : Value:=.string ⟨l.toArray⟩
theorem Below.B7 {w W : World} {n : Nat} (h : Below W.heap.size W w) : KeepsFrom n W w:=⟨h.size,fun k o _ hk _=>(h.block k (Array.getElem?_eq_some_iff.1 hk).1).trans hk⟩
theorem Boxed.dp {W W' : World} {B : Nat} {t : TypeId} {v : Value} (h : Boxed W B t v) (hb : Below W.heap.size W W') : Boxed W' B t v:=(hb.block B h.lt).trans h
theorem Hx (B : Nat) (arr : Array Value) (t : TypeId) (fz : Nat × Nat) : Own (fun (_ : Unit) W=>W.heap[B]? = some (.cells arr t fz)):=by
 rintro s X Y row hv hg hrow
 refine (hg.block B (Array.getElem?_eq_some_iff.1 hv).1 fun e' => ?_).trans hv
 obtain ⟨o,ho,hc⟩:=hrow B e'.symm
 rw [hv] at ho;cases ho;cases hc
theorem Eg {len k x : Nat} (hk : k ≤ len) : x ∈ dn len k ↔ len - k ≤ x ∧ x < len:=by
 unfold dn
 simp only [List.mem_map,List.mem_range]
 constructor
 ·rintro ⟨j,hj,rfl⟩;omega
 ·rintro ⟨h1,h2⟩;exact ⟨len - 1 - x,by omega,by omega⟩
def Hit (nm : Nat → List UInt8) (og : Nat → Int) (name : List UInt8) (below : Int) (x : Nat) : Prop:=nm x = name ∧ og x < below
theorem Boxed.newAt {W : World} {B : Nat} (h : B = W.heap.size) (t : TypeId) (v : Value) : Boxed (W.alloc (.cells #[v] t)) B t v:=by subst h;exact Boxed.new W t v
set_option maxRecDepth 100000 in
set_option maxHeartbeats 8000000 in
theorem K6 (n : Nat) (hn : 6 ≤ n) (w : World) (sv : Value) (len : Nat) (vs : Nat → List Value) (below : Int) (name : List UInt8) (nm wh : Nat → List UInt8) (og : Nat → Int) (out : Nat → Value × Value) (u : List UInt8)
 (hlen : len ≤ 4294967296) (hone : ∀ x,∀ v ∈ vs x,v.oneCell' = true) (hI : mP w.heap.size w sv len vs)
 (hv : ∀ i,(vs i)[0]? = some (dD (nm i)) ∧ (vs i)[2]? = some (dD (wh i)) ∧ (vs i)[4]? = some (.int .u8 (og i)))
 (hend : ∀ W,Below w.heap.size w W → Calls Tryz.prog 159 #[dD name] W fun e W' => e = .returned (dD u) ∧ Below W.heap.size W W')
 (hhit : ∀ x,Hit nm og name below x →
  (wh x ≠ [] ∧ out x = (.int .i64 (x : Int),dD [])) ∨
  (wh x = [] ∧ ∃ wd,(∀ W v1,Below w.heap.size w W → (vs x)[1]? = some v1 → Calls Tryz.prog 122 #[v1] W fun e W' => e = .returned (dD wd) ∧ Below W.heap.size W W') ∧
   ((wd = [] ∧ out x = (.int .i64 (x : Int),dD [])) ∨
    (wd ≠ [] ∧ (∃ m t,out x = (.int .i64 m,dD t)) ∧ ∀ W,Below w.heap.size w W → Calls Tryz.prog 158 #[sv,.int .i64 (x : Int),dD wd] W fun e W' => e = .returned (.tuple #[(out x).1,(out x).2]) ∧ Below W.heap.size W W')))) :
 CallsIn Fence.wide n Tryz.prog 115 #[sv,.int .u8 below,dD name] w fun e W' =>
  (∃ r : Value × Value,e = .returned (.tuple #[r.1,r.2]) ∧ (((∀ i,i < len → ¬ Hit nm og name below i) ∧ r = (.int .i64 (-1),dD u)) ∨ ∃ x,x < len ∧ Hit nm og name below x ∧ (∀ i,x < i → i < len → ¬ Hit nm og name below i) ∧ r = out x)) ∧ Below w.heap.size w W':=by
 have h1 : 1 ≤ n:=by omega
 refine callsIn_of_wp_marks Tryz.func115 rfl trivial ?_ rfl
 simp only [Tryz.ntmps115,List.size_toArray,List.length_cons,List.length_nil,Nat.reduceAdd,Nat.reduceSub,Array.replicate_succ,Array.replicate_zero,List.push_toArray,List.append_toArray,List.nil_append,List.cons_append]
 have hI0:=hI
 obtain ⟨a,cap,b,off,rfl,ha,hvl,hb,hcs⟩:=hI
 gi_wp2_with (refine ⟨trivial, ?_⟩;gi_at_call 157;refine (K2 Fence.wide (n - 1) trivial rfl _ _ _ _).mono ?_;rintro e w' ⟨rfl,rfl⟩)
 obtain ⟨w6,hw6⟩ : ∃ w6,((((((w.alloc (Obj.cells #[Value.slice a len cap] 44)).alloc (Obj.cells #[Value.int IntKind.u8 below] 5)).alloc (Obj.cells #[dD name] 9)).alloc (Obj.cells #[Value.int IntKind.i64 0] 3)).alloc (Obj.cells #[Value.string { data:=#[] }] 9)).alloc (Obj.cells #[Value.slice a len cap] 44)) = w6:=⟨_,rfl⟩
 rw [hw6]
 have hsz : w6.heap.size = w.heap.size + 6:=by rw [← hw6];simp [World.size_alloc]
 have hB6 : Below w.heap.size w w6:=by
  rw [← hw6]
  exact ((((((Below.refl _ w).alloc (Nat.le_refl _) _).alloc (by simp) _).alloc (by simp;omega) _).alloc (by simp;omega) _).alloc (by simp;omega) _).alloc (by simp;omega) _
 have bx0 : Boxed w6 w.heap.size 44 (.slice a len cap):=by rw [← hw6];exact (((((Boxed.newAt (by simp) _ _).alloc _).alloc _).alloc _).alloc _).alloc _
 have bx1 : Boxed w6 (w.heap.size + 1) 5 (.int .u8 below):=by rw [← hw6];exact ((((Boxed.newAt (by simp) _ _).alloc _).alloc _).alloc _).alloc _
 have bx2 : Boxed w6 (w.heap.size + 1 + 1) 9 (dD name):=by rw [← hw6];exact (((Boxed.newAt (by simp) _ _).alloc _).alloc _).alloc _
 have bx3 : Boxed w6 (w.heap.size + 1 + 1 + 1) 3 (.int .i64 0):=by rw [← hw6];exact ((Boxed.newAt (by simp) _ _).alloc _).alloc _
 have bx4 : Boxed w6 (w.heap.size + 1 + 1 + 1 + 1) 9 (dD []):=by rw [← hw6];exact (Boxed.newAt (by simp) _ _).alloc _
 have bx5 : Boxed w6 (w.heap.size + 1 + 1 + 1 + 1 + 1) 44 (.slice a len cap):=by rw [← hw6];exact Boxed.newAt (by simp) _ _
 have hI6 : mP w6.heap.size w6 (.slice a len cap) len vs:=by
  obtain ⟨a',cap',b',off',e1,e2,e3,e4,e5⟩:=hI0.below hB6
  exact ⟨a',cap',b',off',e1,e2,e3,e4.imp id fun q=>by omega,e5⟩
 clear hw6
 refine wpIn_rangeFunc_ownH (F:=Fence.wide) rfl h1 (gf:=203) (lb:=#[.pointer (some ⟨w.heap.size + 1 + 1 + 1 + 1 + 1,0,none⟩)]) rfl trivial (enters_of Tryz.func203 (by kernel_rfl) rfl)
  (D1 Fence.wide (n - 1) trivial rfl (by omega) (w.heap.size + 1 + 1 + 1 + 1 + 1) w6.heap.size (.slice a len cap) len vs hlen w6 (by omega) (Nat.le_refl _) bx5.cell hI6) belowK_t (belowK_b (Nat.le_refl _)) (Below.refl _ _) (fun _=>rfl)
  (fun pre W=>(∀ y ∈ pre,¬ Hit nm og name below y) ∧ Below w6.heap.size w6 W)
  (fun c pre W=>(c = .ret ∧ ∃ pre' x,pre = pre' ++ [x] ∧ (∀ y ∈ pre',¬ Hit nm og name below y) ∧ Hit nm og name below x) ∧ (Boxed W (w.heap.size + 1 + 1 + 1) 3 (out (pre.getLast?.getD 0)).1 ∧ Boxed W (w.heap.size + 1 + 1 + 1 + 1) 9 (out (pre.getLast?.getD 0)).2) ∧ Below w.heap.size w W)
  ((ownFrom_pure _ _).and (ownFrom_below (Nat.le_refl _) (Nat.le_refl _)))
  (fun c=>(ownFrom_pure _ (fun pre=>c = .ret ∧ ∃ pre' x,pre = pre' ++ [x] ∧ (∀ y ∈ pre',¬ Hit nm og name below y) ∧ Hit nm og name below x)).and ((((boxed_own _ _ (fun pre : List Nat=>(out (pre.getLast?.getD 0)).1)).from _).and ((boxed_own _ _ (fun pre : List Nat=>(out (pre.getLast?.getD 0)).2)).from _)).and (ownFrom_below (Nat.le_refl _) (by omega))))
  ⟨by simp,Below.refl _ _⟩
  (fun x a' W=>∃ Bx,w6.heap.size ≤ Bx ∧ W.heap[Bx]? = some (.cells (vs x).toArray 87 (0,0)) ∧ a' = {
   tmps:=#[Value.slice a len cap,Value.int IntKind.u8 below,dD name,
    Value.pointer (some { block:=w.heap.size,off:=0 }),
    Value.pointer (some { block:=w.heap.size + 1,off:=0 }),
    Value.pointer (some { block:=w.heap.size + 1 + 1,off:=0 }),
    Value.pointer (some { block:=w.heap.size + 1 + 1 + 1,off:=0 }),
    Value.pointer (some { block:=w.heap.size + 1 + 1 + 1 + 1,off:=0 }),.int .i64 (x : Int),Value.pointer (some ⟨Bx,0,none⟩),undef,
    Value.slice a len cap,
    Value.func (Fn.func 203) #[] #[Value.pointer (some { block:=w.heap.size + 1 + 1 + 1 + 1 + 1,off:=0 })],
    .int .i64 (x : Int),.agg (vs x).toArray,undef,undef,undef,undef,undef,undef,undef,undef,undef,undef,undef,undef,undef,undef,
    undef,undef,undef,undef,undef,undef,undef,undef,undef,undef,undef,undef,undef,undef,undef,
    undef],
   defers:=[] })
  (fun x a' s W W' row ⟨Bx,k1,k2,k3⟩ hg hr=>⟨Bx,k1,(Hx Bx _ _ _).from w6.heap.size () W W' row k2 hg hr,k3⟩)
  ?assign ?body ?done ?stop
 case assign =>
  rintro l pre x W K ⟨hno,hBw⟩ hK
  have hst : (storeCells ⟨W.heap.size,0,none⟩ (vs x) 0).run Tryz.prog (W.alloc (Obj.cells #[Value.string { data:=#[] },Value.slice none 0 0,Value.string { data:=#[] },Value.bool false,Value.int IntKind.u8 0,Value.bool false,Value.int IntKind.i64 0,Value.int IntKind.i64 0,Value.int IntKind.i64 0,Value.int IntKind.i64 0,Value.int IntKind.i64 0] 87)) = .ok () (W.alloc (Obj.cells (vs x).toArray 87)):=by
   have h11 : (vs x).toArray.size = 11:=by simp [hvl x]
   simpa using run_storeCells_new (P:=Tryz.prog) W 87 #[Value.string { data:=#[] },Value.slice none 0 0,Value.string { data:=#[] },Value.bool false,Value.int IntKind.u8 0,Value.bool false,Value.int IntKind.i64 0,Value.int IntKind.i64 0,Value.int IntKind.i64 0,Value.int IntKind.i64 0,Value.int IntKind.i64 0] (vs x).toArray (by rw [h11];kernel_rfl) (by rw [h11];rfl) (by simpa using hone x)
  gi_wp2
  exact hK _ _ ((KeepsOthers.alloc _ _).from _) ((Below.refl _ W).alloc hBw.size _) ⟨hno,hBw.alloc hBw.size _⟩ ⟨W.heap.size,hBw.size,World.alloc_heap_new W _,rfl⟩
 case body =>
  rintro l pre x a' W hl ⟨r,hr⟩ ⟨hno,hBw⟩ ⟨Bx,hBx,k2,rfl⟩ hlt
  have q0:=(Boxed.dp bx0 hBw).cell
  have q1:=(Boxed.dp bx1 hBw).cell
  have q2:=(Boxed.dp bx2 hBw).cell
  have y3:=Boxed.dp bx3 hBw
  have y4:=Boxed.dp bx4 hBw
  have c0 : W.cell? ⟨Bx,0,none⟩ = some (dD (nm x)):=by simp [World.cell?,k2,(hv x).1]
  have c2 : W.cell? ⟨Bx,2,none⟩ = some (dD (wh x)):=by simp [World.cell?,k2,(hv x).2.1]
  have c4 : W.cell? ⟨Bx,4,none⟩ = some (.int .u8 (og x)):=by simp [World.cell?,k2,(hv x).2.2]
  have go : ¬ Hit nm og name below x → ∀ y ∈ pre ++ [x],¬ Hit nm og name below y:=fun h y hy=>by
   rcases List.mem_append.1 hy with q|q
   ·exact hno y q
   ·rw [List.mem_singleton.1 q];exact h
  clear hsz
  by_cases hnm : nm x = name
  ·by_cases hog : og x < below
   ·have hH : Hit nm og name below x:=⟨hnm,hog⟩
    have hlg : (pre ++ [x]).getLast?.getD 0 = x:=by simp
    have hlo : ¬ below ≤ og x:=by omega
    have hBx0 : Below w.heap.size w W:=hB6.trans (hBw.mono hB6.size)
    obtain ⟨v1,hv1⟩ : ∃ v1,(vs x)[1]? = some v1:=⟨_,List.getElem?_eq_getElem (by rw [hvl x];omega)⟩
    have c1 : W.cell? ⟨Bx,1,none⟩ = some v1:=by simp [World.cell?,k2,hv1]
    have fin : ∀ (W1 : World) (r1 r2 : Value),KeepsFrom w6.heap.size W W1 → Below w.heap.size w W1 → Boxed W1 (w.heap.size + 1 + 1 + 1) 3 (.int .i64 0) → Boxed W1 (w.heap.size + 1 + 1 + 1 + 1) 9 (dD []) → out x = (r1,r2) → ∀ a',
     ownPostG w6.heap.size (Below w6.heap.size) (fun pre W=>(∀ y ∈ pre,¬ Hit nm og name below y) ∧ Below w6.heap.size w6 W)
      (fun c pre W=>(c = .ret ∧ ∃ pre' x,pre = pre' ++ [x] ∧ (∀ y ∈ pre',¬ Hit nm og name below y) ∧ Hit nm og name below x) ∧ (Boxed W (w.heap.size + 1 + 1 + 1) 3 (out (pre.getLast?.getD 0)).1 ∧ Boxed W (w.heap.size + 1 + 1 + 1 + 1) 9 (out (pre.getLast?.getD 0)).2) ∧ Below w.heap.size w W)
      (pre ++ [x]) W .ret a' ((W1.setCell ⟨w.heap.size + 1 + 1 + 1,0,none⟩ r1).setCell ⟨w.heap.size + 1 + 1 + 1 + 1,0,none⟩ r2):=by
     intro W1 r1 r2 hkf hbl b3 b4 ho a'
     refine ⟨hkf.trans (((KeepsOthers.setCell _ _ _).trans (KeepsOthers.setCell _ _ _)).from _),⟨rfl,pre,x,rfl,hno,hH⟩,⟨?_, ?_⟩,(hbl.setCell (p:=⟨w.heap.size + 1 + 1 + 1,0,none⟩) (by show w.heap.size ≤ w.heap.size + 1 + 1 + 1;omega) _).setCell (p:=⟨w.heap.size + 1 + 1 + 1 + 1,0,none⟩) (by show w.heap.size ≤ w.heap.size + 1 + 1 + 1 + 1;omega) _⟩
     ·rw [hlg,ho];exact (b3.set r1).other (by omega) r2
     ·rw [hlg,ho];exact (b4.other (by omega) r1).set r2
    rcases hhit x hH with ⟨hw1,ho⟩|⟨hw1,wd,hwide,⟨hw2,ho⟩|⟨hw2,⟨m,t,ho⟩,hmean⟩⟩
    ·have hwb : (wh x == []) = false:=by simpa using hw1
     have z3:=y3.cell
     have f3:=y3.frozen
     have z4:=y4.cell
     have f4:=y4.frozen
     gi_wp2
     exact fin W _ _ (KeepsFrom.refl _ _) hBx0 y3 y4 ho _
    ·subst hw2
     have cw:=hwide W v1 hBx0 hv1
     gi_wp2_with (refine ⟨trivial,fun _=>by omega, ?_⟩;gi_at_call 122;refine (CallsIn.inRound l (callsIn_wide.2 cw)).mono ?_;rintro e w' ⟨rfl,hbw⟩;have y3':=Boxed.dp y3 hbw;have y4':=Boxed.dp y4 hbw;have z3:=y3'.cell;have f3:=y3'.frozen;have z4:=y4'.cell;have f4:=y4'.frozen)
     exact fin w' _ _ (Below.B7 hbw) (hBx0.trans (hbw.mono hBx0.size)) y3' y4' ho _
    ·have hwb : (wd == []) = false:=by simpa using hw2
     have cw:=hwide W v1 hBx0 hv1
     have y0:=Boxed.dp bx0 hBw
     rw [ho] at hmean
     gi_wp2_with (first
      | (refine ⟨trivial,fun _=>by omega, ?_⟩;gi_at_call 122;refine (CallsIn.inRound l (callsIn_wide.2 cw)).mono ?_;rintro e w' ⟨rfl,hbw⟩;have y3':=Boxed.dp y3 hbw;have y4':=Boxed.dp y4 hbw;have z0:=(Boxed.dp y0 hbw).cell;have hBw':=hBx0.trans (hbw.mono hBx0.size);have cm:=hmean w' hBw')
      | (refine ⟨trivial,fun _=>by omega, ?_⟩;gi_at_call 158;refine (CallsIn.inRound l (callsIn_wide.2 cm)).mono ?_;rintro e w'' ⟨rfl,hbm⟩;have y3'':=Boxed.dp y3' hbm;have y4'':=Boxed.dp y4' hbm;have z3:=y3''.cell;have f3:=y3''.frozen;have z4:=y4''.cell;have f4:=y4''.frozen))
     exact fin w'' _ _ ((Below.B7 hbw).trans (Below.B7 hbm)) (hBw'.trans (hbm.mono hBw'.size)) y3'' y4'' ho _
   ·have hge : below ≤ og x:=by omega
    gi_wp2
    exact ⟨KeepsFrom.refl _ _,Below.refl _ _,go (fun h=>absurd h.2 (by omega)),hBw⟩
  ·have hnb : (nm x == name) = false:=by simpa using hnm
   gi_wp2
   exact ⟨KeepsFrom.refl _ _,Below.refl _ _,go (fun h=>hnm h.1),hBw⟩
 case done =>
  rintro D xs W hD rfl ⟨hno,hBw⟩ hK
  have q2:=(Boxed.dp bx2 hBw).cell
  have y3:=Boxed.dp bx3 hBw
  have y4:=Boxed.dp bx4 hBw
  have hBx0 : Below w.heap.size w W:=hB6.trans (hBw.mono hB6.size)
  have cu:=hend W hBx0
  have hDK:=hD
  have l5:=bx5.lt
  have hK2 : ∀ w',Below W.heap.size W w' → (((w'.setCell ⟨w.heap.size + 1 + 1 + 1,0,none⟩ (.int .i64 (-1))).setCell ⟨w.heap.size + 1 + 1 + 1 + 1,0,none⟩ (dD u))).heap[D]? = some (.deferred (some [])):=fun w' hb =>
   (KeepsOthers.setCell _ _ _).same D _ ((KeepsOthers.setCell _ _ _).same D _ ((hb.block D (Array.getElem?_eq_some_iff.1 hK).1).trans hK) rfl) rfl
  clear hsz hD
  gi_wp2_with (refine ⟨trivial, ?_⟩;gi_at_call 159;refine (callsIn_wide.2 cu).mono ?_;rintro e w' ⟨rfl,hbw⟩;have y3':=Boxed.dp y3 hbw;have y4':=Boxed.dp y4 hbw;have z3:=y3'.cell;have f3:=y3'.frozen;have z4:=y4'.cell;have f4:=y4'.frozen)
  refine ⟨by simp,.inl ⟨_,_,rfl,run_takeDeferred (hK2 w' hbw), ?_⟩⟩
  have d3:=((y3'.set (.int .i64 (-1))).other (B':=w.heap.size + 1 + 1 + 1 + 1) (by omega) (dD u)).kept (grownBy_putObj' _ D (.deferred none)) (fun e=>by cases e;omega)
  have d4:=((y4'.other (B':=w.heap.size + 1 + 1 + 1) (by omega) (.int .i64 (-1))).set (dD u)).kept (grownBy_putObj' _ D (.deferred none)) (fun e=>by cases e;omega)
  have e3:=d3.cell
  have e4:=d4.cell
  have hbl : Below w.heap.size w ((w'.setCell ⟨w.heap.size + 1 + 1 + 1,0,none⟩ (.int .i64 (-1))).setCell ⟨w.heap.size + 1 + 1 + 1 + 1,0,none⟩ (dD u)) :=
   ((hBx0.trans (hbw.mono hBx0.size)).setCell (p:=⟨w.heap.size + 1 + 1 + 1,0,none⟩) (by show w.heap.size ≤ w.heap.size + 1 + 1 + 1;omega) _).setCell (p:=⟨w.heap.size + 1 + 1 + 1 + 1,0,none⟩) (by show w.heap.size ≤ w.heap.size + 1 + 1 + 1 + 1;omega) _
  refine ⟨.tuple #[.int .i64 (-1),dD u], ?_,⟨(.int .i64 (-1),dD u),rfl,.inl ⟨fun i hi=>hno i ((Eg (Nat.le_refl _)).2 ⟨by omega,hi⟩),rfl⟩⟩,hbl.trans (belowK_b (w:=w) (Nat.le_refl _) _ D _ _ (by omega) (hK2 w' hbw) rfl rfl)⟩
  simp [results,Tryz.f115,go_sem,e3,e4]
 case stop =>
  rintro D c pre W hD ⟨k,hk,rfl⟩ ⟨⟨rfl,pre',x,hp,hno,hH⟩,⟨y3,y4⟩,hBw⟩ hK
  have l5:=bx5.lt
  have hDK:=hD
  clear hsz
  have hx : x = len - k ∧ 0 < k:=by
   cases k with
   | zero=>simp [dn] at hp
   | succ k =>
     refine ⟨?_,Nat.succ_pos _⟩
     unfold dn at hp
     rw [List.range_succ,List.map_append] at hp
     have:=List.append_inj_right' hp (by simp)
     simp at this
     omega
  have hlg : (dn len k).getLast?.getD 0 = x:=by rw [hp];simp
  rw [hlg] at y3 y4
  have hab : ∀ i,x < i → i < len → ¬ Hit nm og name below i:=by
   intro i h1 h2
   have hi : i ∈ dn len k:=(Eg hk).2 ⟨by omega,h2⟩
   rw [hp] at hi
   rcases List.mem_append.1 hi with q|q
   ·exact hno i q
   ·rw [List.mem_singleton.1 q] at h1;omega
  gi_wp2
  refine ⟨by simp,.inl ⟨_,_,rfl,run_takeDeferred hK, ?_⟩⟩
  have e3:=(y3.kept (grownBy_putObj' _ D (.deferred none)) (fun e=>by cases e;omega)).cell
  have e4:=(y4.kept (grownBy_putObj' _ D (.deferred none)) (fun e=>by cases e;omega)).cell
  refine ⟨.tuple #[(out x).1,(out x).2], ?_,⟨out x,rfl,.inr ⟨x,by omega,hH,hab,rfl⟩⟩,hBw.trans (belowK_b (w:=w) (Nat.le_refl _) _ D _ _ (by omega) hK rfl rfl)⟩
  simp [results,Tryz.f115,go_sem,e3,e4]
end Go.Proofs.YtfageokhpklkbaaGreatDoor

