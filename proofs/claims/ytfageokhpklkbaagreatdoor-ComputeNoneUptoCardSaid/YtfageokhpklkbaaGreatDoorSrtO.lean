/-
 A map's keys,sorted: what the library's contract says,told of own memory.
 No conditions: definitions and lemmas over any program.
-/
import Derived.Test.YtfageokhpklkbaaGreatDoorGoto
import Derived.Sort.KeysCollected
import Derived.Maps.Own
set_option linter.unusedVariables false
set_option linter.unusedSimpArgs false
namespace Go.Aw
open Go Go.RowKit Go.MapKept Go.Maps
open Go.WideElems (Fit rd rg)
open Go.Proofs (encStr)
variable [Laid]
def leL : List UInt8 → List UInt8 → Bool
 | [],_=>true
 | _ :: _,[]=>false
 | a :: as,b :: bs=>match Nat.blt a.toNat b.toNat with|true=>true|false=>(match Nat.beq a.toNat b.toNat with|true=>leL as bs|false=>false)
def qm (x : List UInt8) : List (List UInt8) → List (List UInt8)
 | []=>[x]
 | y :: r=>match leL x y with|true=>x :: y :: r|false=>y :: qm x r
def iE : List (List UInt8) → List (List UInt8)
 | []=>[]
 | x :: r=>qm x (iE r)
omit [Laid] in
theorem w7 : ∀ a b : List UInt8,leL a b = leB a b
 | [],b=>by simp [leL,leB]
 | a :: as,[]=>by simp [leL,leB]
 | a :: as,b :: bs=>by
   have ih:=w7 as bs
   unfold leL
   simp only [leB] at ih ⊢
   cases h1 : Nat.blt a.toNat b.toNat with
   | true =>
     have : a.toNat < b.toNat:=by simpa [Nat.blt_eq] using h1
     have hlt : a < b:=UInt8.lt_iff_toNat_lt.2 this
     simp [List.cons_le_cons_iff,hlt]
   | false =>
     have hn : ¬ a.toNat < b.toNat:=by
      intro q;rw [← Nat.blt_eq] at q;rw [q] at h1;cases h1
     have hlt : ¬ a < b:=fun q=>hn (UInt8.lt_iff_toNat_lt.1 q)
     cases h2 : Nat.beq a.toNat b.toNat with
     | true =>
       have e : a = b:=UInt8.toNat_inj.1 (Nat.eq_of_beq_eq_true h2)
       subst e
       simp only [ih]
       simp [List.cons_le_cons_iff]
     | false =>
       have e : a ≠ b:=fun q=>by subst q;simp at h2
       simp [List.cons_le_cons_iff,hlt,e]
omit [Laid] in
theorem oP (x : List UInt8) : ∀ l,(qm x l).Perm (x :: l)
 | []=>.refl _
 | y :: r=>by
   unfold qm
   cases leL x y with
   | true=>exact .refl _
   | false=>exact ((oP x r).cons y).trans (.swap x y r)
omit [Laid] in
theorem kA : ∀ l,(iE l).Perm l
 | []=>.refl _
 | x :: r=>(oP x (iE r)).trans ((kA r).cons x)
omit [Laid] in
theorem EJ (a b c : List UInt8) (h1 : leB a b = true) (h2 : leB b c = true) : leB a c = true:=by simp only [leB,decide_eq_true_eq] at *;exact List.le_trans h1 h2
omit [Laid] in
theorem EI (a b : List UInt8) : (leB a b || leB b a) = true:=by simp only [leB,Bool.or_eq_true,decide_eq_true_eq];exact List.le_total a b
omit [Laid] in
theorem y9 (x : List UInt8) : ∀ l,l.Pairwise (fun a b=>leB a b = true) → (qm x l).Pairwise (fun a b=>leB a b = true)
 | [],_=>by simp [qm]
 | y :: r,h=>by
   unfold qm
   cases q : leL x y with
   | true =>
     rw [w7] at q
     refine List.pairwise_cons.2 ⟨fun z hz=>?_,h⟩
     rcases List.mem_cons.1 hz with rfl|hz
     ·exact q
     ·exact EJ _ _ _ q ((List.pairwise_cons.1 h).1 z hz)
   | false =>
     rw [w7] at q
     have q' : leB y x = true:=by have:=EI x y;rw [q] at this;simpa using this
     refine List.pairwise_cons.2 ⟨fun z hz=>?_,y9 x r (List.pairwise_cons.1 h).2⟩
     rcases List.mem_cons.1 ((oP x r).mem_iff.1 hz) with rfl|hz
     ·exact q'
     ·exact (List.pairwise_cons.1 h).1 z hz
omit [Laid] in
theorem xB : ∀ l,(iE l).Pairwise (fun a b=>leB a b = true)
 | []=>by simp [iE]
 | x :: r=>y9 x _ (xB r)
omit [Laid] in
theorem xA {l l' : List (List UInt8)} (h : l'.Perm l) : l'.mergeSort leB = iE l:=by
 refine List.Perm.eq_of_pairwise (le:=fun a b=>leB a b = true) (fun a b _ _ h1 h2=>?_) (List.pairwise_mergeSort EJ EI l') (xB l) (((List.mergeSort_perm l' leB).trans h).trans (kA l).symm)
 simp only [leB,decide_eq_true_eq] at h1 h2
 exact List.le_antisymm h1 h2
def px : List (Nat × AV × AV) → Option (List (List UInt8))
 | []=>some []
 | (_,.str s,_) :: r=>(match px r with|some l=>some (s :: l)|none=>none)
 | _=>none
noncomputable def qp (x : List UInt8) : List (List UInt8) → Bool
 | []=>false
 | y :: r=>match eqL x y with|true=>true|false=>qp x r
noncomputable def qs : List (List UInt8) → Bool
 | []=>true
 | x :: r=>match qp x r with|true=>false|false=>qs r
def tU : List (Nat × AV × AV) → Bool
 | []=>true
 | (n,_,_) :: r=>match (gh n r).isSome with|true=>false|false=>tU r
noncomputable def qD (c : Nat) (es : List (Nat × AV × AV)) : Option AV :=
 match px es,jW c es,tU es,Nat.ble es.length 1000000 with
 | some l,true,true,true=>(match qs l with|true=>(match iE l with|[]=>some (.v (.slice none 0 0))|s=>some (.sl 1 (s.map fun x=>[.str x])))|false=>none)
 | _,_,_,_=>none
omit [Laid] in
theorem qq (x : List UInt8) : ∀ l,qp x l = true ↔ x ∈ l
 | []=>by simp [qp]
 | y :: r=>by
   unfold qp
   rw [kS]
   by_cases e : x = y
   ·simp [e]
   ·simp [e,qq x r]
omit [Laid] in
theorem AA : ∀ l,qs l = true → l.Nodup
 | [],_=>List.nodup_nil
 | x :: r,h=>by
   unfold qs at h
   cases q : qp x r with
   | true=>rw [q] at h;cases h
   | false =>
     rw [q] at h
     refine List.nodup_cons.2 ⟨fun k=>?_,AA r h⟩
     rw [(qq x r).2 k] at q;cases q
section
variable {ι : List Ix} {S : aJ} {w : World}
omit [Laid]
theorem MpR.keys : ∀ {es : List (Nat × AV × AV)} {l : List MapEntry} {ks : List (List UInt8)},MpR ι S w es l → px es = some ks → l.map (·.key) = ks.map encStr ∧ ∀ k ∈ ks,k.length ≤ maxLen
 | [],l,ks,h,e=>by rw [MpR] at h;subst h;cases e;simp
 | (n,k,v) :: es,l,ks,h,e=>by
  rw [MpR] at h
  obtain ⟨x,l',rfl,_,h3,_,h5⟩:=h
  unfold px at e
  split at e
  ·rename_i heq;cases heq
  ·rename_i heq
   cases heq
   split at e
   ·rename_i q
    cases e
    obtain ⟨a,b⟩:=h5.keys q
    simp only [dk] at h3
    exact ⟨by simp [a,h3.1],fun k hk=>(List.mem_cons.1 hk).elim (fun q=>q ▸ h3.2) (b k)⟩
   ·cases e
  ·cases e
theorem MpR.born : ∀ {es : List (Nat × AV × AV)} {l : List MapEntry},MpR ι S w es l → l.map (·.born) = es.map (·.1)
 | [],l,h=>by rw [MpR] at h;subst h;rfl
 | (n,k,v) :: es,l,h=>by
  rw [MpR] at h
  obtain ⟨x,l',rfl,h2,_,_,h5⟩:=h
  simp [h2,h5.born]
theorem yE {c : Nat} : ∀ {es : List (Nat × AV × AV)},jW c es = true → ∀ n ∈ es.map (·.1),n < c
 | [],_=>by simp
 | (m,_,_) :: r,h=>by
  unfold jW at h
  split at h
  ·rename_i q
   intro n hn
   simp only [List.map_cons,List.mem_cons] at hn
   rcases hn with rfl|hn
   ·exact Nat.le_of_ble_eq_true q
   ·exact yE h n hn
  ·cases h
theorem uu {n : Nat} : ∀ {es : List (Nat × AV × AV)},(gh n es).isSome = true ↔ n ∈ es.map (·.1)
 | []=>by simp [gh]
 | (m,k,v) :: r=>by
  unfold gh
  cases q : Nat.beq m n with
  | true=>simp [Nat.eq_of_beq_eq_true q]
  | false =>
    have : n ≠ m:=fun e=>by subst e;simp at q
    simp [this,uu (n:=n) (es:=r)]
theorem AB : ∀ {es : List (Nat × AV × AV)},tU es = true → (es.map (·.1)).Nodup
 | [],_=>List.nodup_nil
 | (n,k,v) :: r,h=>by
  unfold tU at h
  split at h
  ·cases h
  ·rename_i q
   refine List.nodup_cons.2 ⟨fun e=>?_,AB h⟩
   rw [uu.2 e] at q;cases q
end
omit [Laid] in
theorem uj {ι : List Ix} {S : aJ} {w : World} {g : Nat} : ∀ (l : List (List UInt8)) (off : Nat),(∀ i s,l[i]? = some s → w.cell? ⟨g,off + i,none⟩ = some (encStr s) ∧ S g (off + i) ∧ s.length ≤ maxLen) → bA ι S w 1 (l.map fun s=>[.str s]) g off
 | [],off,_=>by simp [bA]
 | s :: l,off,h=>by
   obtain ⟨a,b,c⟩:=h 0 s rfl
   simp only [List.map_cons,bA,bn]
   refine ⟨by simp,⟨⟨_,a,b, ?_⟩,trivial⟩,uj l (off + 1) fun i t e=>?_⟩
   ·rw [dk];exact ⟨rfl,c⟩
   ·have:=h (i + 1) t (by simpa using e)
    rwa [show off + (i + 1) = off + 1 + i by omega] at this
def l9 : Value → Option (DataW Unit × List MemPlace):=fun _=>some (.nil,[])
theorem HE {P : Program} {fS fK : FuncId} {kt et : TypeId} (hkt : P.underlying kt = some .string)
 (hC : ∀ (Bm b nn : Nat) (D0 : DataW Unit) (w : World),Bm < w.heap.size → w.cell? ⟨Bm,0,none⟩ = some (.map (some b)) → w.ownsMap P kt l9 b nn D0 → Maps.size D0 ≤ maxLen → Maps.size D0 * 16 ≤ 140737488355328 →
  Calls P fS #[.func (.func fK) #[] #[.pointer (some ⟨Bm,0,none⟩)]] w fun e w' => ∃ (v : Value) (ss : List (List UInt8)),e = .returned v ∧ ss.Perm (strKeys D0) ∧
   w'.ownsRow w.heap.size et 1 v ss.length ((ss.mergeSort leB).map encStr) ∧ (v = .slice none 0 0 ↔ ss = []) ∧ Below w.heap.size w w')
 {h : aa} {id mid c : Nat} {x : Blk} {es : List (Nat × AV × AV)} {r : AV} (hid : h[id]? = some (.blk x)) (hx : x.cells[0]? = some (.mp mid)) (hmid : h[mid]? = some (.mp c es)) (hr : qD c es = some r) :
 ct P fS [.fn (.func fK) [] [.op id 0]] h fun r' hh=>r' = r ∧ hh = h:=by
 intro base ι S w vs h1 h2
 match vs,h1 with
 | [],h1=>simp at h1
 | _ :: _ :: _,h1=>simp at h1
 | [v1],h1 =>
 simp only [bD,fL,and_true] at h1
 rw [Rep] at h1
 obtain ⟨vs1,us,rfl,r1,r2⟩:=h1
 simp only [fL] at r1
 subst r1
 match us,r2 with
 | [],r2=>simp at r2
 | _ :: _ :: _,r2=>simp at r2
 | [u],r2 =>
 simp only [bD,fL,and_true] at r2
 rw [Rep] at r2
 obtain ⟨b,hb,rfl⟩:=r2
 obtain ⟨b',arr,fz,e1,e2,e3,_,_,hcell,_⟩:=h2.live id x hid
 rw [hb] at e1;cases e1
 obtain ⟨v0,ev0,rv0⟩:=hcell 0 _ hx
 rw [Rep] at rv0
 obtain ⟨bm,hbm,rfl⟩:=rv0
 obtain ⟨bm',marr,f1,f2,f3,f4,f5⟩:=h2.oth mid _ hmid
 rw [hbm] at f1;cases f1
 unfold qD at hr
 split at hr
 rotate_left
 ·cases hr
 rename_i ks hks hbel hnn hln
 split at hr
 rotate_left
 ·cases hr
 rename_i hnd
 obtain ⟨hkeys,hkl⟩:=f5.keys hks
 have hborn:=f5.born
 have hlen : marr.size = ks.length:=by have:=congrArg List.length hkeys;simpa using this
 have hel : es.length = ks.length:=by have:=congrArg List.length hborn;simp at this;omega
 have hln:=Nat.le_of_ble_eq_true hln
 have hbig : (1000000 : Nat) ≤ maxLen:=by unfold maxLen;omega
 have hrd : ∀ y ∈ marr.toList,∃ s : List UInt8,y.key = encStr s ∧ s ∈ ks ∧ rd P kt l9 y = some (.string s,.nil):=fun y hy=>by
  have : y.key ∈ marr.toList.map (·.key):=List.mem_map.2 ⟨y,hy,rfl⟩
  rw [hkeys] at this
  obtain ⟨s,hs,e⟩:=List.mem_map.1 this
  refine ⟨s,e.symm,hs, ?_⟩
  have hl:=hkl s hs
  have hk : keyOf P kt y.key = some (.string s):=by
   rw [← e]
   simp [keyOf,hkt,mapKey,encStr]
   exact hl
  cases y
  exact Go.WideElems.rd_mk hk (yv:=(.nil,[])) rfl
 have Ft : Fit P kt l9 marr c:=by
  refine ⟨by omega,⟨fun y hy=>?_, ?_, ?_⟩,fun y hy=>?_⟩
  ·refine yE hbel y.born ?_
   rw [← hborn]
   exact List.mem_map.2 ⟨y,hy,rfl⟩
  ·rw [hborn];exact AB hnn
  ·rw [hkeys]
   exact List.pairwise_map.2 ((AA ks hnd).imp fun hne e=>hne (encStr_inj e))
  ·obtain ⟨s,_,_,e⟩:=hrd y hy
   exact ⟨_,e⟩
 have hkeysP : ∀ l : List MapEntry,(∀ y ∈ l,∃ s : List UInt8,y.key = encStr s ∧ s ∈ ks ∧ rd P kt l9 y = some (.string s,.nil)) → ∀ q : List (List UInt8),l.map (·.key) = q.map encStr → (l.map (rg P kt l9)).map (fun p=>strOf p.1) = q:=by
  intro l
  induction l with
  | nil=>intro _ q e;cases q <;> simp at e ⊢
  | cons y l ih =>
    intro hy q e
    cases q with
    | nil=>simp at e
    | cons s q =>
      simp only [List.map_cons,List.cons.injEq] at e
      obtain ⟨s',e1,_,e2⟩:=hy y (List.mem_cons_self ..)
      have : s' = s:=encStr_inj (e1.symm.trans e.1)
      subst this
      simp only [List.map_cons,List.cons.injEq]
      exact ⟨by rw [Go.WideElems.rg_of e2];rfl,ih (fun z hz=>hy z (List.mem_cons_of_mem _ hz)) q e.2⟩
 have hperm : (strKeys (.map ((marr.toList.map (rg P kt l9)).foldr DataW.insert []) : DataW Unit)).Perm ks:=by
  show (((marr.toList.map (rg P kt l9)).foldr DataW.insert []).map fun p=>strOf p.1).Perm ks
  refine ((Go.WideShapes.sorted_perm _).map _).trans ?_
  rw [hkeysP marr.toList hrd ks hkeys]
 have hsz : Maps.size (.map ((marr.toList.map (rg P kt l9)).foldr DataW.insert []) : DataW Unit) = marr.size:=by
  show ((marr.toList.map (rg P kt l9)).foldr DataW.insert []).length = _
  rw [length_sorted];simp
 have hbl : b < w.heap.size:=(Array.getElem?_eq_some_iff.1 e3).1
 refine (hC b bm marr.size _ w hbl ?_ ⟨marr,c,f3,Ft,Nat.le_refl _,rfl⟩ (by rw [hsz];omega) (by rw [hsz];omega)).mono ?_
 ·simp [World.cell?,e3,ev0]
 rintro e w' ⟨v,ss,rfl,hp,hrow,hnil,hB⟩
 have hsort : ss.mergeSort leB = iE ks:=xA (hp.trans hperm)
 have hssl : ss.length = ks.length:=(hp.trans hperm).length_eq
 rw [hsort] at hrow
 have hshp : ∀ b x,w.shape? b = some x → w'.shape? b = some x:=fun b x hx=>by
  unfold World.shape? at hx ⊢
  have hb : b < w.heap.size:=by
   rcases Nat.lt_or_ge b w.heap.size with k|k
   ·exact k
   ·rw [Array.getElem?_eq_none k] at hx;cases hx
  rw [hB.block b hb];exact hx
 have hsl : (iE ks).length = ks.length:=(kA ks).length_eq
 cases hsk : iE ks with
 | nil =>
   rw [hsk] at hr
   cases hr
   have hz : ss = []:=List.eq_nil_of_length_eq_zero (by rw [hssl,← hsl,hsk];rfl)
   have hv:=hnil.2 hz
   subst hv
   have hE : Evo ι.length w.heap.size ι S w ι S w':=⟨fun _ _=>dM.refl _,fun _ _ q=>q,fun _ _ q=>.inl q,fun b o q=>hB.cell (h2.stb b o q),hshp,hB⟩
   exact ⟨_,ι,S,_,h,rfl,hE.mono (by rw [h2.len];exact Nat.le_refl _) h2.bas,by simp,h2.over hE (fun b o q=>Nat.lt_of_lt_of_le (h2.stb b o q) hB.size),Nat.le_refl _,rfl,rfl⟩
 | cons s0 s1 =>
   have hr' : r = .sl 1 ((iE ks).map fun x=>[.str x]):=by rw [hsk] at hr ⊢;cases hr;rfl
   rcases hrow.2 with ⟨_,hz⟩|⟨g,cap,cur,rfl,hg,hgb,k1,k2,k3,k4⟩
   ·rw [hssl,← hsl,hsk] at hz;simp at hz
   let S' : aJ:=fun b o=>S b o ∨ (b = g ∧ o < ss.length)
   have hgl : g < w'.heap.size:=(Array.getElem?_eq_some_iff.1 hgb).1
   have hE : Evo ι.length w.heap.size ι S w ι S' w':=⟨fun _ _=>dM.refl _,fun _ _ q=>.inl q,fun b o q=>q.elim .inl fun q=>.inr (q.1 ▸ hg),fun b o q=>hB.cell (h2.stb b o q),hshp,hB⟩
   refine ⟨_,ι,S',r,h,rfl,hE.mono (by rw [h2.len];exact Nat.le_refl _) h2.bas, ?_,h2.over hE (fun b o q=>q.elim (fun q=>Nat.lt_of_lt_of_le (h2.stb b o q) hB.size) fun q=>q.1 ▸ hgl),Nat.le_refl _,rfl,rfl⟩
   rw [hr',Rep]
   refine ⟨some ⟨g,0,none⟩,cap,by rw [List.length_map,hsl,hssl],by rw [List.length_map,hsl,← hssl];exact k1,k2,.inr ⟨g,0,rfl,uj _ _ fun i t e=>?_⟩⟩
   have hi : i < ss.length:=by rw [hssl,← hsl];exact (List.getElem?_eq_some_iff.1 e).1
   refine ⟨?_,.inr ⟨rfl,by omega⟩,hkl t ((kA ks).mem_iff.1 (List.mem_of_getElem? e))⟩
   have q : (cur.toList.take (ss.length * 1))[i]? = some (encStr t):=by rw [k4];simp [e]
   rw [List.getElem?_take] at q
   split at q
   ·simp only [World.cell?,hgb,Nat.zero_add]
    simpa using q
   ·cases q
end Go.Aw

