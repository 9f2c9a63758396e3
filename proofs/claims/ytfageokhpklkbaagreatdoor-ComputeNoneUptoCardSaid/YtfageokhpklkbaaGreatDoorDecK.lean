/-
 wide.decide,known to the runs: what it comes to is reckoned from the rows and from what its callees come to.
 No conditions: contracts.
-/
import Derived.Test.YtfageokhpklkbaaGreatDoorDec
import Derived.Test.YtfageokhpklkbaaGreatDoorSrtK
set_option linter.unusedVariables false
set_option linter.unusedSimpArgs false
namespace Go.Proofs.YtfageokhpklkbaaGreatDoor
open Go Go.Aw Go.RowKit
set_option maxRecDepth 1000000
noncomputable def DD (r : List AV) : Option (List UInt8 × AV × List UInt8 × Int):=match r with
 | [.str n,v,.str w,_,.v (.int .u8 o),_,_,_,_,_,_]=>some (n,v,w,o)
 | _=>none
noncomputable def rowAt (rows : List (List AV)) (k : Nat) : Option (List UInt8 × AV × List UInt8 × Int):=match rows[k]? with|some r=>DD r|none=>none
noncomputable def rowsOf (l : AV) : Option (List (List AV)):=match l with|.sl 11 rows=>some rows|.v (.slice none 0 0)=>some []|_=>none
noncomputable def tz (call : aw) (l : AV) (k : Nat) (v : AV) (wh : List UInt8) : Option AV:=match wh with
 | []=>(match call 122 [v] [] with
   | some (.str wd,none)=>(match wd with
     | []=>some (.tup [int k,.str []])
     | _ :: _=>(match Nat.ble wd.length 1000,call 158 [l,int k,.str wd] [] with|true,some (.tup [.v (.int .i64 i),.str s],none)=>some (.tup [int i,.str s])|_,_=>none))
   | _=>none)
 | _ :: _=>some (.tup [int k,.str []])
noncomputable def goD (call : aw) (rows : List (List AV)) (l : AV) (name : List UInt8) (below : Int) : Nat → Option AV
 | 0=>(match call 159 [.str name] [] with|some (.str u,none)=>some (.tup [int (-1),.str u])|_=>none)
 | k + 1=>(match rowAt rows k with
   | some (n,v,wh,o)=>(match eqL n name,ltI o below with
     | true,true=>(match tz call l k v wh,goD call rows l name below k with|some r,some _=>some r|_,_=>none)
     | _,_=>goD call rows l name below k)
   | none=>none)
noncomputable def vo (rows : List (List AV)) : Bool:=js (fun r=>match DD r,js cv r with|some _,true=>true|_,_=>false) rows
noncomputable def vY (call : aw) (args : List AV) : Option AV:=match args with
 | [l,.v (.int .u8 b),.str name]=>(match rowsOf l with
   | some rows=>(match vo rows,fc args,Nat.ble rows.length 100000 with|true,true,true=>(match goD call rows l name b rows.length with|some (.tup [.v (.int .i64 i),.str s])=>(match Nat.ble s.length 100000 with|true=>some (.tup [int i,.str s])|false=>none)|_=>none)|_,_,_=>none)
   | none=>none)
 | _=>none
noncomputable def nmD (rows : List (List AV)) (i : Nat) : List UInt8:=match rowAt rows i with|some p=>p.1|none=>[]
noncomputable def whD (rows : List (List AV)) (i : Nat) : List UInt8:=match rowAt rows i with|some p=>p.2.2.1|none=>[]
noncomputable def ogD (rows : List (List AV)) (i : Nat) : Int:=match rowAt rows i with|some p=>p.2.2.2|none=>0
theorem qk {call : aw} {rows : List (List AV)} {l : AV} {name : List UInt8} {below : Int} : ∀ m {r : AV},goD call rows l name below m = some r → ∃ r0,goD call rows l name below 0 = some r0
 | 0,r,e=>⟨r,e⟩
 | m + 1,r,e=>by
   rw [goD] at e
   split at e
   ·split at e
    ·split at e
     ·rename_i _ _ _ h;exact qk m h
     ·cases e
    ·exact qk m e
   ·cases e
theorem tw {call : aw} {rows : List (List AV)} {l : AV} {name : List UInt8} {below : Int} : ∀ m {r : AV},goD call rows l name below m = some r →
 (∀ i,i < m → ∃ p,rowAt rows i = some p ∧ (p.1 = name → p.2.2.2 < below → ∃ ri,tz call l i p.2.1 p.2.2.1 = some ri)) ∧
 (((∀ i,i < m → ∀ p,rowAt rows i = some p → ¬ (p.1 = name ∧ p.2.2.2 < below)) ∧ goD call rows l name below 0 = some r) ∨
  ∃ x p,x < m ∧ rowAt rows x = some p ∧ (p.1 = name ∧ p.2.2.2 < below) ∧ (∀ i,x < i → i < m → ∀ q,rowAt rows i = some q → ¬ (q.1 = name ∧ q.2.2.2 < below)) ∧ tz call l x p.2.1 p.2.2.1 = some r)
 | 0,r,e=>⟨fun i hi=>by omega,.inl ⟨fun i hi=>by omega,e⟩⟩
 | m + 1,r,e=>by
   rw [goD] at e
   split at e
   rotate_left
   ·cases e
   rename_i n v wh o hr
   split at e
   ·rename_i h1 h2
    rw [kS] at h1
    rw [jf] at h2
    have h1:=of_decide_eq_true h1
    have h2:=of_decide_eq_true h2
    split at e
    rotate_left
    ·cases e
    rename_i r1 r2 hh hg
    cases e
    obtain ⟨A,_⟩:=tw m hg
    refine ⟨fun i hi=>?_,.inr ⟨m,_,Nat.lt_succ_self m,hr,⟨h1,h2⟩,fun i h h' => by omega,hh⟩⟩
    rcases Nat.lt_or_ge i m with q|q
    ·exact A i q
    ·obtain rfl : i = m:=by omega
     exact ⟨_,hr,fun _ _=>⟨_,hh⟩⟩
   ·rename_i hno
    have hno' : ¬ (n = name ∧ o < below):=fun ⟨a1,a2⟩=>hno (by rw [kS];exact decide_eq_true a1) (by rw [jf];exact decide_eq_true a2)
    obtain ⟨A,B⟩:=tw m e
    refine ⟨fun i hi=>?_, ?_⟩
    ·rcases Nat.lt_or_ge i m with q|q
     ·exact A i q
     ·obtain rfl : i = m:=by omega
      exact ⟨_,hr,fun a1 a2=>absurd ⟨a1,a2⟩ hno'⟩
    ·have ex : ∀ i,m ≤ i → i < m + 1 → ∀ q,rowAt rows i = some q → ¬ (q.1 = name ∧ q.2.2.2 < below):=fun i h1 h2 q hq=>by
      obtain rfl : i = m:=by omega
      rw [hr] at hq;cases hq;exact hno'
     rcases B with ⟨B1,B2⟩|⟨x,p,b1,b2,b3,b4,b5⟩
     ·refine .inl ⟨fun i hi q hq=>?_,B2⟩
      rcases Nat.lt_or_ge i m with z|z
      ·exact B1 i z q hq
      ·exact ex i z hi q hq
     ·refine .inr ⟨x,p,by omega,b2,b3,fun i h1 h2 q hq=>?_,b5⟩
      rcases Nat.lt_or_ge i m with z|z
      ·exact b4 i h1 z q hq
      ·exact ex i z h2 q hq
theorem oZ {f : FuncId} {args : List AV} {r : AV} {call : aw} (hc : aW Tryz.prog call) (hb : cq Tryz.prog f = true) (e : call f args [] = some (r,none)) {S : aJ} {w : World} {vs : List Value} (h1 : au [] S w args vs) (hS : ∀ b o,S b o → b < w.heap.size) (hg : GOK S w) :
 ∀ W,Below w.heap.size w W → Calls Tryz.prog f vs.toArray W fun e W' => ∃ v ι' S',e = .returned v ∧ Below W.heap.size W W' ∧ Rep ι' S' W' r v:=by
 intro W hB
 have hE : Evo 0 w.heap.size [] S w [] S W:=⟨fun _ _=>dM.refl _,fun _ _ q=>q,fun _ _ q=>.inl q,fun b o q=>hB.cell (hS b o q),fun b x hx=>by
  unfold World.shape? at hx ⊢
  have hb : b < w.heap.size:=by
   rcases Nat.lt_or_ge b w.heap.size with k|k
   ·exact k
   ·rw [Array.getElem?_eq_none k] at hx;cases hx
  rw [hB.block b hb];exact hx,hB⟩
 rcases hc f args [] r none e with ⟨_,hA⟩|hA
 ·refine (hA W.heap.size [] S W vs (h1.evo hE (Nat.le_refl _)) (HOK.nil S W (fun b o q=>Nat.lt_of_lt_of_le (hS b o q) hB.size) (hg.evo hE))).mono ?_
  rintro e W' ⟨v,ι',S',r',h',e1,e2,e3,_,_,rfl,_⟩
  exact ⟨v,ι',S',e1,e2.bel,e3⟩
 ·rw [hA.1] at hb;cases hb
theorem bn.at' {ι : List Ix} {S : aJ} {w : World} : ∀ {cs : List AV} {b off : Nat},bn ι S w cs b off → ∀ j c,cs[j]? = some c → ∃ u,w.cell? ⟨b,off + j,none⟩ = some u ∧ S b (off + j) ∧ Rep ι S w c u
 | [],b,off,_,j,c,e=>by simp at e
 | x :: cs,b,off,h,0,c,e=>by simp at e;subst e;rw [bn] at h;exact h.1
 | x :: cs,b,off,h,j + 1,c,e=>by
   rw [bn] at h
   obtain ⟨u,a1,a2,a3⟩:=bn.at' h.2 j c (by simpa using e)
   exact ⟨u,by rwa [show off + (j + 1) = off + 1 + j by omega],by rwa [show off + (j + 1) = off + 1 + j by omega],a3⟩
theorem bA.at' {ι : List Ix} {S : aJ} {w : World} {sz : Nat} : ∀ {rows : List (List AV)} {b off : Nat},bA ι S w sz rows b off → ∀ i r,rows[i]? = some r → r.length = sz ∧ bn ι S w r b (off + i * sz)
 | [],b,off,_,i,r,e=>by simp at e
 | x :: rows,b,off,h,0,r,e=>by simp at e;subst e;rw [bA] at h;simpa using ⟨h.1,h.2.1⟩
 | x :: rows,b,off,h,i + 1,r,e=>by
   rw [bA] at h
   obtain ⟨a1,a2⟩:=bA.at' h.2.2 i r (by simpa using e)
   exact ⟨a1,by rwa [show off + (i + 1) * sz = off + sz + i * sz by rw [Nat.succ_mul];omega]⟩
noncomputable def Dz (call : aw) (rows : List (List AV)) (l : AV) (x : Nat) : Value × Value:=match rowAt rows x with
 | some p=>(match tz call l x p.2.1 p.2.2.1 with|some (.tup [.v (.int .i64 i),.str s])=>(.int .i64 i,dD s)|_=>(undef,undef))
 | none=>(undef,undef)
theorem yI {call : aw} (hc : aW Tryz.prog call) {args : List AV} {r : AV} (e : vY call args = some r) : cq Tryz.prog 115 = true ∧ ∀ h,ct Tryz.prog 115 args h fun r' hh=>r' = r ∧ hh = h:=by
 refine ⟨by kernel_rfl,fun h=>?_⟩
 unfold vY at e
 split at e
 rotate_left
 ·cases e
 rename_i l below name
 split at e
 rotate_left
 ·cases e
 rename_i rows hrows
 split at e
 rotate_left
 ·cases e
 rename_i hwf hpu hln
 split at e
 rotate_left
 ·cases e
 rename_i ri rs hgo
 split at e
 rotate_left
 ·cases e
 rename_i hsl
 cases e
 have hln:=Nat.le_of_ble_eq_true hln
 have hsl:=Nat.le_of_ble_eq_true hsl
 have pure : bM [l,.v (.int .u8 below),.str name]:=by
  unfold fc at hpu
  rw [eH] at hpu
  have : ∀ a ∈ [l,.v (.int .u8 below),.str name],Bd 0 a:=fun a ha=>by
   have:=List.all_eq_true.1 hpu a ha
   split at this
   ·rename_i z;exact jU 0 a (by omega)
   ·cases this
  have h2 : Aw.Pure (.agg [l,.v (.int .u8 below),.str name]):=kM _ (by rw [Bd];exact (gQ 0 _).2 this)
  rw [Aw.Pure] at h2;exact h2
 obtain ⟨hA,hB⟩:=tw _ hgo
 obtain ⟨r0,hz⟩:=qk _ hgo
 have hun : ∃ u,call 159 [.str name] [] = some (.str u,none) ∧ r0 = .tup [int (-1),.str u]:=by
  rw [goD] at hz
  split at hz
  ·rename_i u hu;cases hz;exact ⟨u,hu,rfl⟩
  ·cases hz
 obtain ⟨u,hu,rfl⟩:=hun
 have C : Con Tryz.prog 115 [l,.v (.int .u8 below),.str name] (.tup [int ri,.str rs]):=by
  refine ⟨pure,by simp, ?_⟩
  intro base ι S w vs h1 h2
  have hι : ι = []:=List.eq_nil_of_length_eq_zero h2.len
  subst hι
  match vs,h1 with
  | [],h1=>simp at h1
  | [_],h1=>simp at h1
  | [_,_],h1=>simp at h1
  | _ :: _ :: _ :: _ :: _,h1=>simp at h1
  | [lv,bv,nv],h1 =>
  simp only [bD,fL,bL,dk,and_true] at h1
  obtain ⟨rl,rfl,rfl,hnl⟩:=h1
  -- the rows' values
  have hrow : ∃ a cap b off,lv = .slice a rows.length cap ∧ (rows.length = 0 ∨ (a = some ⟨b,off,none⟩ ∧ bA [] S w 11 rows b off)):=by
   unfold rowsOf at hrows
   split at hrows
   ·cases hrows
    rw [Rep] at rl
    obtain ⟨a,cap,e1,_,_,e4⟩:=rl
    rcases e4 with rfl|⟨b,off,e5,e6⟩
    ·exact ⟨a,cap,0,0,e1,.inl rfl⟩
    ·exact ⟨a,cap,b,off,e1,.inr ⟨e5,e6⟩⟩
   ·cases hrows
    rw [bL] at rl
    exact ⟨none,0,0,0,rl,.inl rfl⟩
   ·cases hrows
  obtain ⟨a,cap,b,off,rfl,hab⟩:=hrow
  let z : Value:=.bool false
  let vs : Nat → List Value:=fun i=>if i < rows.length then (List.range 11).map fun j=>(w.cell? ⟨b,off + i * 11 + j,none⟩).getD undef else [dD (name ++ [0]),z,dD [],z,.int .u8 0,z,z,z,z,z,z]
  let nm : Nat → List UInt8:=fun i=>if i < rows.length then nmD rows i else name ++ [0]
  let wh : Nat → List UInt8:=fun i=>if i < rows.length then whD rows i else []
  let og : Nat → Int:=fun i=>if i < rows.length then ogD rows i else 0
  have hcell : ∀ i rw',rows[i]? = some rw' → ∀ j c,rw'[j]? = some c → ∃ u,w.cell? ⟨b,off + i * 11 + j,none⟩ = some u ∧ S b (off + i * 11 + j) ∧ Rep [] S w c u:=by
   intro i rw' hi j c hj
   rcases hab with q|⟨_,q⟩
   ·have : rows = []:=List.eq_nil_of_length_eq_zero q
    rw [this] at hi;simp at hi
   ·exact bn.at' (bA.at' q i rw' hi).2 j c hj
  have hwf' : ∀ i,i < rows.length → ∃ rw' n v wh x3 o x5 x6 x7 x8 x9 xa,rows[i]? = some rw' ∧ rw' = [.str n,v,.str wh,x3,.v (.int .u8 o),x5,x6,x7,x8,x9,xa] ∧ rowAt rows i = some (n,v,wh,o):=by
   intro i hi
   have hr : rows[i]? = some rows[i]:=List.getElem?_eq_getElem hi
   unfold vo at hwf
   rw [eH] at hwf
   have:=List.all_eq_true.1 hwf rows[i] (List.getElem_mem hi)
   have hd : ∃ p,DD rows[i] = some p:=by
    split at this
    ·rename_i p hp _;exact ⟨p,hp⟩
    ·cases this
   obtain ⟨p,hp⟩:=hd
   have hp0:=hp
   unfold DD at hp
   split at hp
   ·rename_i n v wh x3 o x5 x6 x7 x8 x9 xa heq
    cases hp
    refine ⟨_,n,v,wh,x3,o,x5,x6,x7,x8,x9,xa,hr,heq, ?_⟩
    unfold rowAt
    rw [hr]
    exact hp0
   ·cases hp
  have hvs : ∀ i j u,i < rows.length → j < 11 → w.cell? ⟨b,off + i * 11 + j,none⟩ = some u → (vs i)[j]? = some u:=by
   intro i j u hi hj hu
   simp only [vs]
   rw [if_pos hi,List.getElem?_map,List.getElem?_range hj]
   simp [hu]
  have hI : mP w.heap.size w (.slice a rows.length cap) rows.length vs:=by
   refine ⟨a,cap,b,off,rfl,hab.imp id (·.1),fun x=>by simp only [vs];split <;> simp, ?_,fun i j v hi hj=>?_⟩
   ·rcases Nat.eq_zero_or_pos rows.length with q|q
    ·exact .inl q
    ·obtain ⟨rw',n,v,wh,x3,o,x5,x6,x7,x8,x9,xa,g1,g2,_⟩:=hwf' 0 q
     obtain ⟨u,_,hs,_⟩:=hcell 0 rw' g1 0 (.str n) (by rw [g2];rfl)
     exact .inr (h2.stb _ _ hs)
   ·have hj11 : j < 11:=by
     have:=(List.getElem?_eq_some_iff.1 hj).1
     simpa [vs,hi] using this
    obtain ⟨rw',n,v',wh,x3,o,x5,x6,x7,x8,x9,xa,g1,g2,_⟩:=hwf' i hi
    have hlen : rw'.length = 11:=by rw [g2];rfl
    obtain ⟨u,hu,_,_⟩:=hcell i rw' g1 j rw'[j] (List.getElem?_eq_getElem (by omega))
    rw [hvs i j u hi hj11 hu] at hj
    cases hj
    exact hu
  have hS:=h2.stb
  have hg:=h2.gl
  have hnm : ∀ i p,rowAt rows i = some p → nmD rows i = p.1 ∧ whD rows i = p.2.2.1 ∧ ogD rows i = p.2.2.2:=by
   intro i p hp
   simp [nmD,whD,ogD,hp]
  have hlt : ∀ i,Hit nm og name below i → i < rows.length:=fun i ⟨q,_⟩=>by
   rcases Nat.lt_or_ge i rows.length with z|z
   ·exact z
   ·simp only [nm] at q
    rw [if_neg (by omega)] at q
    have:=congrArg List.length q
    simp at this
  have hhit : ∀ i p,i < rows.length → rowAt rows i = some p → (Hit nm og name below i ↔ (p.1 = name ∧ p.2.2.2 < below)):=fun i p hi hp=>by
   obtain ⟨k1,k2,k3⟩:=hnm i p hp
   unfold Hit
   simp only [nm,og]
   rw [if_pos hi,if_pos hi,k1,k3]
  have D:=K6 (n:=6) (Nat.le_refl _) w (.slice a rows.length cap) rows.length vs below name nm wh og (Dz call rows l) u (by omega)
   (fun x v hv=>by
    rcases Nat.lt_or_ge x rows.length with hi|hi
    ·obtain ⟨j,hj,rfl⟩:=List.getElem_of_mem hv
     have hj11 : j < 11:=by simpa [vs,hi] using hj
     obtain ⟨rw',n,v',wh,x3,o,x5,x6,x7,x8,x9,xa,g1,g2,_⟩:=hwf' x hi
     have hlen : rw'.length = 11:=by rw [g2];rfl
     obtain ⟨u,hu,_,hr⟩:=hcell x rw' g1 j rw'[j] (List.getElem?_eq_getElem (by omega))
     have e1:=hvs x j u hi hj11 hu
     rw [List.getElem?_eq_getElem hj] at e1
     cases e1
     have hmem : rw' ∈ rows:=List.mem_of_getElem? g1
     unfold vo at hwf
     rw [eH] at hwf
     have h5:=List.all_eq_true.1 hwf rw' hmem
     split at h5
     ·rename_i _ _ _ hsc
      rw [eH] at hsc
      exact nH (List.all_eq_true.1 hsc _ (List.getElem_mem _)) hr
     ·cases h5
    ·have hi' : ¬ x < rows.length:=by omega
     simp only [vs] at hv
     rw [if_neg hi'] at hv
     simp [z,dD] at hv
     rcases hv with rfl|rfl|rfl|rfl|rfl|rfl <;> rfl)
   hI
   (fun i=>by
    rcases Nat.lt_or_ge i rows.length with hi|hi
    ·obtain ⟨rw',n,v',wh',x3,o,x5,x6,x7,x8,x9,xa,g1,g2,g3⟩:=hwf' i hi
     obtain ⟨k1,k2,k3⟩:=hnm i _ g3
     obtain ⟨u0,c0,_,p0⟩:=hcell i rw' g1 0 (.str n) (by rw [g2];rfl)
     obtain ⟨u2,c2,_,p2⟩:=hcell i rw' g1 2 (.str wh') (by rw [g2];rfl)
     obtain ⟨u4,c4,_,p4⟩:=hcell i rw' g1 4 (.v (.int .u8 o)) (by rw [g2];rfl)
     rw [dk] at p0 p2
     rw [bL] at p4
     simp only [nm,wh,og]
     rw [if_pos hi,if_pos hi,if_pos hi]
     refine ⟨?_, ?_, ?_⟩
     ·rw [hvs i 0 u0 hi (by omega) c0,p0.1,k1]
     ·rw [hvs i 2 u2 hi (by omega) c2,p2.1,k2]
     ·rw [hvs i 4 u4 hi (by omega) c4,p4,k3]
    ·have hi' : ¬ i < rows.length:=by omega
     simp only [nm,wh,og,vs]
     rw [if_neg hi',if_neg hi',if_neg hi',if_neg hi']
     exact ⟨rfl,rfl,rfl⟩)
   (fun W hB=>by
    refine (oZ hc (by kernel_rfl) hu (S:=S) (w:=w) (vs:=[dD name]) (by rw [bD,dk];exact ⟨⟨rfl,hnl⟩,by simp⟩) hS hg W hB).mono ?_
    rintro e W' ⟨v,ι',S',rfl,hb,hr⟩
    rw [dk] at hr
    exact ⟨by rw [hr.1],hb⟩)
   (fun x hx=>by
    have hxl:=hlt x hx
    obtain ⟨rw',n,v',wh',x3,o,x5,x6,x7,x8,x9,xa,g1,g2,g3⟩:=hwf' x hxl
    obtain ⟨k1,k2,k3⟩:=hnm x _ g3
    obtain ⟨p,hp,hq⟩:=hA x hxl
    rw [g3] at hp;cases hp
    obtain ⟨hx1,hx2⟩:=(hhit x _ hxl g3).1 hx
    obtain ⟨ro,e0⟩:=hq hx1 hx2
    have ewh : wh x = wh':=by simp only [wh];rw [if_pos hxl,k2]
    rw [ewh]
    have eout : Dz call rows l x = (match (some ro : Option AV) with|some (.tup [.v (.int .i64 i),.str s])=>(.int .i64 i,dD s)|_=>(undef,undef)):=by
     unfold Dz;rw [g3];simp only [e0]
    rw [eout]
    cases wh' with
    | nil =>
      unfold tz at e0
      dsimp only at e0
      split at e0
      rotate_left
      ·cases e0
      rename_i wd hwd
      refine .inr ⟨rfl,wd,fun W v1 hB hv1=>?_, ?_⟩
      ·obtain ⟨u1,c1,_,p1⟩:=hcell x rw' g1 1 v' (by rw [g2];rfl)
       rw [hvs x 1 u1 hxl (by omega) c1] at hv1
       cases hv1
       refine (oZ hc (by kernel_rfl) hwd (S:=S) (w:=w) (vs:=[v1]) (by rw [bD];exact ⟨p1,by simp⟩) hS hg W hB).mono ?_
       rintro e W' ⟨v,ι',S',rfl,hb,hr⟩
       rw [dk] at hr
       exact ⟨by rw [hr.1],hb⟩
      ·split at e0
       ·cases e0
        exact .inl ⟨rfl,rfl⟩
       ·split at e0
        rotate_left
        ·cases e0
        rename_i i s hwl hm
        cases e0
        refine .inr ⟨by simp,⟨_,_,rfl⟩,fun W hB=>?_⟩
        have hwl:=Nat.le_of_ble_eq_true hwl
        refine (oZ hc (by kernel_rfl) hm (S:=S) (w:=w) (vs:=[.slice a rows.length cap,.int .i64 (x : Int),dD _]) ?_ hS hg W hB).mono ?_
        ·rw [bD,bD,bD,bL,dk]
         exact ⟨rl,rfl,⟨rfl,Nat.le_trans hwl (by unfold maxLen;omega)⟩,by simp⟩
        ·rintro e W' ⟨v,ι',S',rfl,hb,hr⟩
         rw [Rep] at hr
         obtain ⟨us,rfl,hus⟩:=hr
         match us,hus with
         | [],hus=>simp at hus
         | [_],hus=>simp at hus
         | _ :: _ :: _ :: _,hus=>simp at hus
         | [u1,u2],hus =>
           simp only [bD,fL,bL,dk,and_true] at hus
           obtain ⟨rfl,rfl,_⟩:=hus
           exact ⟨rfl,hb⟩
    | cons c0 wt =>
      unfold tz at e0
      dsimp only at e0
      cases e0
      exact .inl ⟨by simp,rfl⟩)
  refine ((callsIn_wide (n:=6)).1 D).mono ?_
  rintro e W' ⟨⟨rv,rfl,hr⟩,hBw⟩
  have hrv : rv = (.int .i64 ri,dD rs):=by
   rcases hr with ⟨n1,rfl⟩|⟨x,hxl,hx,habove,rfl⟩
   ·rcases hB with ⟨_,b2⟩|⟨x,p,b1,b2,b3,_,_⟩
    ·rw [hz] at b2;cases b2;rfl
    ·exact absurd ((hhit x p b1 b2).2 b3) (n1 x b1)
   ·rcases hB with ⟨b1,_⟩|⟨y,p,b1,b2,b3,b4,b5⟩
    ·obtain ⟨_,_,_,_,_,_,_,_,_,_,_,_,_,_,g3⟩:=hwf' x hxl
     exact absurd ((hhit x _ hxl g3).1 hx) (b1 x hxl _ g3)
    ·have hxy : x = y:=by
      rcases Nat.lt_trichotomy x y with z|z|z
      ·exact absurd ((hhit y p b1 b2).2 b3) (habove y z b1)
      ·exact z
      ·obtain ⟨_,_,_,_,_,_,_,_,_,_,_,_,_,_,g3⟩:=hwf' x hxl
       exact absurd ((hhit x _ hxl g3).1 hx) (b4 x z hxl _ g3)
     subst hxy
     unfold Dz
     rw [b2]
     simp only [b5]
  subst hrv
  have hE : Evo 0 w.heap.size [] S w [] S W':=⟨fun _ _=>dM.refl _,fun _ _ q=>q,fun _ _ q=>.inl q,fun b o q=>hBw.cell (hS b o q),fun b x hx=>by
   unfold World.shape? at hx ⊢
   have hb : b < w.heap.size:=by
    rcases Nat.lt_or_ge b w.heap.size with k|k
    ·exact k
    ·rw [Array.getElem?_eq_none k] at hx;cases hx
   rw [hBw.block b hb];exact hx,hBw⟩
  refine ⟨_,[],S,.tup [int ri,.str rs],[],rfl,hE.mono (Nat.le_refl _) h2.bas, ?_,h2.over hE (fun b o q=>Nat.lt_of_lt_of_le (hS b o q) hBw.size),Nat.le_refl _,rfl⟩
  rw [Rep]
  refine ⟨[.int .i64 ri,dD rs],rfl, ?_⟩
  rw [bD,bD,bL,dk]
  exact ⟨rfl,⟨rfl,Nat.le_trans hsl (by unfold maxLen;omega)⟩,by simp⟩
 exact C.call ⟨rfl,rfl⟩
end Go.Proofs.YtfageokhpklkbaaGreatDoor

