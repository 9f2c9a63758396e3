/-
 slices.Backward over declarations: its closure hands out each element,the last one first.
 No conditions: contracts.
-/
import Derived.RangeFuncNested
import Derived.RangeFuncBound
import Derived.RangeFuncCalls
import Derived.RangeFuncLeaves
import Derived.RangeFuncBox
import Derived.Shelf.Abstract
import Derived.Shelf.RegionOpen
import Derived.WalkKit
import Derived.OwnWalkIn
import Derived.TacticsInMore
import Derived.LoopNIn
import Derived.LoopIn
import Derived.Test.YtfageokhpklkbaaGreatDoorProg
import Derived.Test.YtfageokhpklkbaaGreatDoorL5
set_option linter.unusedVariables false
set_option linter.unusedSimpArgs false
namespace Go.Proofs.YtfageokhpklkbaaGreatDoor
open Go Go.RowKit Go.Shelf
attribute [local go_sem] Oper.semAt_some
def dn (n k : Nat) : List Nat:=(List.range k).map fun j=>n - 1 - j
theorem yM (n k : Nat) : dn n (k + 1) = dn n k ++ [n - 1 - k]:=by simp [dn,List.range_succ]
theorem Ef (n k : Nat) : (dn n k).length = k:=by simp [dn]
theorem La {l : List Value} (h : l.length = 11) : ∃ v0 v1 v2 v3 v4 v5 v6 v7 v8 v9 v10,l = [v0,v1,v2,v3,v4,v5,v6,v7,v8,v9,v10]:=by
 match l,h with
 | [v0,v1,v2,v3,v4,v5,v6,v7,v8,v9,v10],_=>exact ⟨v0,v1,v2,v3,v4,v5,v6,v7,v8,v9,v10,rfl⟩
set_option maxRecDepth 100000 in
set_option maxHeartbeats 2000000 in
theorem IA (F : Fence) (n : Nat) (h8 : F.fn 203) (hro : F.round = none) (hn : 1 ≤ n) (l Bs n₀ b off len cap : Nat) (a : Option Addr) (ha : len = 0 ∨ a = some ⟨b,off,none⟩) (vs : Nat → List Value) (hvs : ∀ x,(vs x).length = 11) (hreach : len ≤ 4294967296) (hb : len = 0 ∨ b < n₀) (hBn : Bs < n₀) (J Jx : List Nat → World → Prop)
 (hY : ∀ (pre : List Nat) (x : Nat) W,J pre W → pre.length < len → YieldAt F (n - 1) Tryz.prog l #[.int .i64 (x : Int),.agg (vs x).toArray] W fun e W' =>
  (e = .returned (.bool true) ∧ J (pre ++ [x]) W' ∧ Below n₀ W W') ∨ (e = .returned (.bool false) ∧ Jx (pre ++ [x]) W'))
 (W : World) (hBs : W.cell? ⟨Bs,0,none⟩ = some (.slice a len cap)) (hc : ∀ i j v,i < len → (vs i)[j]? = some v → W.cell? ⟨b,off + i * 11 + j,none⟩ = some v) (h0 : J [] W) :
 CallsIn F n Tryz.prog 203 #[.func (.yield l) #[] #[],.pointer (some ⟨Bs,0,none⟩)] W fun e W' => (∃ v,e = .returned v) ∧
  ((∃ ys,ys = dn len len ∧ J ys W') ∨ (∃ pre,(∃ k,k ≤ len ∧ pre = dn len k) ∧ Jx pre W')):=by
 refine callsIn_of_wp Tryz.func203 rfl h8 ?_ hro
 simp only [Tryz.ntmps203,List.size_toArray,List.length_cons,List.length_nil,Nat.reduceAdd,Nat.reduceSub,Array.replicate_succ,Array.replicate_zero,List.push_toArray,List.append_toArray,List.nil_append,List.cons_append]
 gi_wp2
 gi_loopw [3] (fun i wr=>∃ k : Nat,k ≤ len ∧ ((k < len ∧ i = .int .i64 ((len - 1 - k : Nat) : Int)) ∨ (k = len ∧ i = .int .i64 (-1))) ∧ J (dn len k) wr ∧ Below n₀ W wr)
  (fun i _=>(intOf i + 1).toNat)
 case atStart =>
  refine ⟨0,Nat.zero_le _, ?_,h0,Below.refl _ _⟩
  rcases Nat.eq_zero_or_pos len with rfl|hp
  ·exact .inr ⟨rfl,by simp⟩
  ·exact .inl ⟨hp,by congr 1;omega⟩
 case round =>
  obtain ⟨k,hk,hi,hJs,hnx⟩:=hrel
  have hBx : wr.cell? ⟨Bs,0,none⟩ = some (.slice a len cap):=(hnx.cell (p:=⟨Bs,0,none⟩) hBn).trans hBs
  rcases hi with ⟨hlt,rfl⟩|⟨rfl,rfl⟩
  ·obtain ⟨fn,tmps,assign,body,hy,hR⟩:=hY _ (len - 1 - k) wr hJs (by rw [Ef];exact hlt)
   obtain rfl : a = some ⟨b,off,none⟩:=ha.resolve_left (by omega)
   have hb : b < n₀:=hb.resolve_left (by omega)
   have hcx : ∀ j v,(vs (len - 1 - k))[j]? = some v → wr.cell? ⟨b,off + (len - 1 - k) * 11 + j,none⟩ = some v:=fun j v e=>(hnx.cell (p:=⟨b,off + (len - 1 - k) * 11 + j,none⟩) hb).trans (hc _ j v (by omega) e)
   obtain ⟨v0,v1,v2,v3,v4,v5,v6,v7,v8,v9,v10,hv⟩:=La (hvs (len - 1 - k))
   rw [hv] at hy hcx
   have c0:=hcx 0 v0 rfl
   have c1:=hcx 1 v1 rfl
   have c2:=hcx 2 v2 rfl
   have c3:=hcx 3 v3 rfl
   have c4:=hcx 4 v4 rfl
   have c5:=hcx 5 v5 rfl
   have c6:=hcx 6 v6 rfl
   have c7:=hcx 7 v7 rfl
   have c8:=hcx 8 v8 rfl
   have c9:=hcx 9 v9 rfl
   have c10:=hcx 10 v10 rfl
   rw [Nat.add_zero] at c0
   gi_wp2
   refine hR.mono ?_
   rintro e W3 (⟨rfl,hJ3,hk3⟩|⟨rfl,hJx3⟩)
   ·gi_wp2
    go_roundw
    case rel =>
     refine ⟨k + 1,by omega, ?_,by rw [yM];exact hJ3,hnx.trans hk3⟩
     rcases Nat.lt_or_ge (k + 1) len with q|q
     ·exact .inl ⟨q,by congr 1;omega⟩
     ·exact .inr ⟨by omega,by congr 1;omega⟩
    case measure=>first|(simp [intOf];done)|(simp [intOf];omega)
   ·gi_wp2
    refine bodyPost_ret (results_none rfl _ _ _) rfl ?_
    exact ⟨⟨_,rfl⟩,.inr ⟨_,⟨k + 1,by omega,(yM _ _).symm⟩,hJx3⟩⟩
  ·gi_wp2
   go_end0
   exact ⟨⟨_,rfl⟩,.inl ⟨_,rfl,hJs⟩⟩
set_option maxHeartbeats 1000000 in
theorem K2 (F : Fence) (n : Nat) (h5 : F.fn 157) (hro : F.round = none) (a : Option Addr) (len cap : Nat) (w : World) :
 CallsIn F n Tryz.prog 157 #[.slice a len cap] w fun e w' => e = .returned (.func (.func 203) #[] #[.pointer (some ⟨w.heap.size,0,none⟩)]) ∧ w' = w.alloc (.cells #[.slice a len cap] 44):=by
 refine callsIn_of_wp Tryz.func157 rfl h5 ?_ hro
 simp only [Tryz.ntmps157,List.size_toArray,List.length_cons,List.length_nil,Nat.reduceAdd,Nat.reduceSub,Array.replicate_succ,Array.replicate_zero,List.push_toArray,List.append_toArray,List.nil_append,List.cons_append]
 gi_wp2
 go_ret
 exact ⟨rfl,rfl⟩
def mP (n₀ : Nat) (W : World) (sv : Value) (len : Nat) (vs : Nat → List Value) : Prop :=
 ∃ a cap b off,sv = .slice a len cap ∧ (len = 0 ∨ a = some ⟨b,off,none⟩) ∧ (∀ x,(vs x).length = 11) ∧ (len = 0 ∨ b < n₀) ∧ ∀ i j v,i < len → (vs i)[j]? = some v → W.cell? ⟨b,off + i * 11 + j,none⟩ = some v
theorem mP.below {n₀ : Nat} {A B : World} (h : Below n₀ A B) {sv : Value} {len : Nat} {vs : Nat → List Value} : mP n₀ A sv len vs → mP n₀ B sv len vs
 | ⟨a,cap,b,off,e,ha,hv,hb,hc⟩=>⟨a,cap,b,off,e,ha,hv,hb,fun i j v hi e=>(h.cell (p:=⟨b,off + i * 11 + j,none⟩) (hb.resolve_left (by omega))).trans (hc i j v hi e)⟩
theorem D1 (F : Fence) (n : Nat) (h8 : F.fn 203) (hro : F.round = none) (hn : 1 ≤ n) (Bs n₀ : Nat) (sv : Value) (len : Nat) (vs : Nat → List Value) (hreach : len ≤ 4294967296) (w : World) (hBs : Bs < n₀) (hn₀ : n₀ ≤ w.heap.size)
 (hc : w.cell? ⟨Bs,0,none⟩ = some sv) (hI : mP n₀ w sv len vs) :
 SeqStopsK F n Tryz.prog 203 #[.pointer (some ⟨Bs,0,none⟩)] (fun x : Nat=>#[Value.int .i64 (x : Int),.agg (vs x).toArray]) (Below n₀) (fun ys=>ys = dn len len)
  (fun pre=>∃ k,k ≤ len ∧ pre = dn len k) len w:=fun l J Jx W hW _ _ hY h0=>by
 have hc':=(hW.cell (p:=⟨Bs,0,none⟩) (by show Bs < _;omega)).trans hc
 obtain ⟨a,cap,b,off,rfl,ha,hv,hb,hcs⟩:=hI.below (hW.mono hn₀)
 exact IA F n h8 hro hn l Bs n₀ b off len cap a ha vs hv hreach hb hBs J Jx hY W hc' hcs h0
end Go.Proofs.YtfageokhpklkbaaGreatDoor

