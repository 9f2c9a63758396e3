/-
  Arguments that hold values and declarations,opened by how much fuel reads them;how great they are against their bulk. Arguments that hold histories and styles,opened by how much fuel reads them;how great they are against their bulk.
  No conditions.
-/
import Derived.Test.YtfageokhpklkbaaGreatDoorL2
import Derived.Test.YtfageokhpklkbaaGreatDoorR1
import Derived.Test.YtfageokhpklkbaaGreatDoorRows
import Derived.Test.YtfageokhpklkbaaGreatDoorStyO
set_option linter.unusedVariables false
set_option linter.unusedSimpArgs false
section
namespace Go.Proofs.YtfageokhpklkbaaGreatDoor
open Go Go.Aw Go.Nst Go.ChangeShapes Go.WideShapes Go.ChangeAt Go.RowKit
set_option maxRecDepth 100000
def OpB (F : Nat) (P : Program) (t : TypeId) {X : Type} (ea : X → List AV) (sz : X → Nat) : Prop :=
 ∀ (H : Type) (enc : TypeId × Value → H) (W : World) (fuel : Nat) (cs : List Value) (d : DataW H) (ps : List MemPlace),fuel ≤ F →
  DataW.trod enc P W 0 (fun _=>true) true fuel t cs = some (d,ps) → ∃ x,au [] (old W) W (ea x) cs ∧ cs.length = P.cellsOf t ∧ sz x ≤ Rows.uptoBulk d
theorem jz {F : Nat} {P : Program} {t : TypeId} {k : IntKind} (ht : P.underlying t = some (.int k)) (hc : P.cellsOf t = 1) : OpB F P t (fun n : Int=>[.v (.int k n)]) (fun _=>1):=by
 intro H enc W fuel cs d ps _ h
 obtain ⟨n,rfl,e,hn⟩:=DataW.trod_int ht h
 simp only [Prod.mk.injEq] at e
 obtain ⟨rfl,_⟩:=e
 exact ⟨n,by simp,by simp [hc],by simp [Rows.uptoBulk]⟩
theorem Hq {F : Nat} {P : Program} {t : TypeId} (ht : P.underlying t = some .bool) (hc : P.cellsOf t = 1) : OpB F P t (fun b : Bool=>[.v (.bool b)]) (fun _=>1):=by
 intro H enc W fuel cs d ps _ h
 obtain ⟨n,rfl,e⟩:=DataW.trod_bool ht h
 simp only [Prod.mk.injEq] at e
 obtain ⟨rfl,_⟩:=e
 exact ⟨n,by simp,by simp [hc],by simp [Rows.uptoBulk]⟩
theorem kq {F : Nat} {P : Program} {t : TypeId} (ht : P.underlying t = some .string) (hc : P.cellsOf t = 1) : OpB F P t (fun s : List UInt8=>[.str s]) (fun s=>s.length + 1):=by
 intro H enc W fuel cs d ps _ h
 obtain ⟨s,rfl,e,hs⟩:=DataW.trod_string ht h
 simp only [Prod.mk.injEq] at e
 obtain ⟨rfl,_⟩:=e
 exact ⟨s.data.toList,by simpa using hs,by simp [hc],by simp [Rows.uptoBulk]⟩
theorem pR {H : Type} : ∀ a b : List (DataW H),Rows.uptoBulkAll (a ++ b) = Rows.uptoBulkAll a + Rows.uptoBulkAll b
 | [],b=>by simp [Rows.uptoBulkAll]
 | x :: a,b=>by rw [List.cons_append,Rows.uptoBulkAll,Rows.uptoBulkAll,pR a b];omega
theorem l6 {F : Nat} {P : Program} {t e : TypeId} {X : Type} {ea : X → List AV} {sz : X → Nat} (ht : P.underlying t = some (.slice e)) (hc : P.cellsOf t = 1) (hpos : 0 < P.cellsOf e) (hx : OpB F P e ea sz) :
 OpB F P t (fun l : List X=>[.sl (P.cellsOf e) (l.map ea)]) (fun l=>(l.map sz).sum + 1):=by
 intro H enc W fuel cs d ps hF h
 obtain ⟨rfl,e1⟩|⟨a,len,cap,elems,rest,n,rfl,rfl,e1,_,hlc,hcm,hlen,hel,_,_⟩:=DataW.trod_slice ht h
 ·simp only [Prod.mk.injEq] at e1
  obtain ⟨rfl,_⟩:=e1
  refine ⟨[], ?_,by simp [hc],by simp [Rows.uptoBulk]⟩
  simp only [List.map_nil,bD,fL,and_true]
  rw [Rep]
  exact ⟨none,0,rfl,Nat.le_refl _,Nat.zero_le _,.inl rfl⟩
 ·simp only [Prod.mk.injEq] at e1
  obtain ⟨rfl,_⟩:=e1
  have key : ∀ i,(hi : i < elems.length) → ∃ x,sz x ≤ Rows.uptoBulk (elems[i]).1 ∧ ∃ us : List Value,au [] (old W) W (ea x) us ∧ us.length = P.cellsOf e ∧ ∀ j,j < us.length → W.cell? ((a.add (i * P.cellsOf e)).add j) = us[j]?:=by
   intro i hi
   have h0:=hel i (by omega)
   rw [List.getElem?_eq_getElem hi] at h0
   obtain ⟨us,hus,hu⟩:=Option.bind_eq_some_iff.1 h0
   obtain ⟨_,hul,huc⟩:=World.cells?_some hus
   obtain ⟨x,h2,h3,h4⟩:=hx H enc W n us elems[i].1 elems[i].2 (by omega) hu
   exact ⟨x,h4,us,h2,h3,fun j hj=>huc j (by omega)⟩
  have hlist : ∀ k,k ≤ len → ∃ l : List X,l.length = k ∧ (l.map sz).sum ≤ Rows.uptoBulkAll ((elems.take k).map (·.1)) ∧ ∀ i x,l[i]? = some x → ∃ us : List Value,au [] (old W) W (ea x) us ∧ us.length = P.cellsOf e ∧ ∀ j,j < us.length → W.cell? ((a.add (i * P.cellsOf e)).add j) = us[j]?:=by
   intro k
   induction k with
   | zero=>intro _;exact ⟨[],rfl,by simp,by simp⟩
   | succ k ih =>
     intro hk
     obtain ⟨l,hl,hs,hi⟩:=ih (by omega)
     obtain ⟨x,hx1,hx2⟩:=key k (by omega)
     refine ⟨l ++ [x],by simp [hl], ?_,fun i y hy=>?_⟩
     ·rw [List.take_add_one,List.getElem?_eq_getElem (by omega),Option.toList_some]
      simp only [List.map_append,pR,List.sum_append,List.map_cons,List.map_nil,List.sum_cons,List.sum_nil,Rows.uptoBulkAll]
      omega
     rcases Nat.lt_trichotomy i k with q|q|q
     ·rw [List.getElem?_append_left (by omega)] at hy
      exact hi i y hy
     ·subst q
      rw [List.getElem?_append_right (by omega)] at hy
      simp [hl] at hy
      subst hy
      exact hx2
     ·rw [List.getElem?_eq_none (by simp;omega)] at hy
      cases hy
  obtain ⟨l,hl,hs,hi⟩:=hlist len (by omega)
  rw [List.take_of_length_le (by omega)] at hs
  refine ⟨l, ?_,by simp [hc],by show (l.map sz).sum + 1 ≤ _;rw [Rows.uptoBulk];omega⟩
  simp only [bD,fL,and_true]
  rw [Rep]
  refine ⟨some a,cap,by simp [hl],by simpa [hl] using hlc,hcm, ?_⟩
  cases l with
  | nil=>exact .inl rfl
  | cons x0 l0 =>
    right
    obtain ⟨us0,_,hu0,hu1⟩:=hi 0 x0 rfl
    obtain ⟨b,off,spot⟩:=a
    have hsp : spot = none:=by
     have h1:=hu1 0 (by omega)
     rw [List.getElem?_eq_getElem (by omega)] at h1
     simpa [Addr.add] using World.cell?_spot h1
    subst hsp
    refine ⟨b,off,rfl,bA.mk fun i r hr=>?_⟩
    rw [List.getElem?_map] at hr
    cases hxi : (x0 :: l0)[i]? with
    | none=>rw [hxi] at hr;cases hr
    | some x =>
      rw [hxi] at hr
      cases hr
      obtain ⟨us,k1,k2,k3⟩:=hi i x hxi
      refine ⟨by rw [k1.length];exact k2,bn.mk fun j c ec=>?_⟩
      obtain ⟨u,e1,e2⟩:=k1.get j c ec
      have h1:=k3 j (List.getElem?_eq_some_iff.1 e1).1
      rw [e1,Aw.add_plain,Aw.add_plain] at h1
      refine ⟨u,h1, ?_,e2⟩
      show b < W.heap.size
      unfold World.cell? at h1
      split at h1
      ·rename_i c1 c2 c3 hh
       exact (Array.getElem?_eq_some_iff.1 hh).1
      ·cases h1
theorem uf : ∀ l : List Vl,(l.map zV).sum = zVs l
 | []=>by simp [zVs]
 | x :: l=>by rw [List.map_cons,List.sum_cons,zVs,uf l]
abbrev Tkn:=Int × Str × Int × Str × Bool
def H0 (x : Tkn) : List AV:=[.v (.int .u8 x.1),.str x.2.1,int x.2.2.1,.str x.2.2.2.1,bool x.2.2.2.2]
theorem Fb (F : Nat) : OpB F Tryz.prog 101 H0 (fun x=>1 + x.2.1.length + x.2.2.2.1.length):=by
 intro H enc W fuel cs d ps hF h
 obtain ⟨xs,n,rfl,e1,hl,hn,hf⟩:=DataW.trod_struct Tryz.underlying101 h
 match xs,hn with
 | [y0,y1,y2,y3,y4],_ =>
   have h0:=hf 0 _ rfl
   have h1:=hf 1 _ rfl
   have h2:=hf 2 _ rfl
   have h3:=hf 3 _ rfl
   have h4:=hf 4 _ rfl
   rw [show Tryz.prog.cellsOf 101 = 5 by kernel_rfl] at hl
   match cs,hl with
   | [c0,c1,c2,c3,c4],_ =>
     obtain ⟨k,r0,_,_⟩:=jz (F:=n) Tryz.underlying5 (by kernel_rfl) H enc W n _ y0.1 y0.2 (Nat.le_refl _) h0
     obtain ⟨t,r1,_,z1⟩:=kq (F:=n) Tryz.underlying9 (by kernel_rfl) H enc W n _ y1.1 y1.2 (Nat.le_refl _) h1
     obtain ⟨m,r2,_,_⟩:=jz (F:=n) Tryz.underlying2 (by kernel_rfl) H enc W n _ y2.1 y2.2 (Nat.le_refl _) h2
     obtain ⟨u,r3,_,z3⟩:=kq (F:=n) Tryz.underlying9 (by kernel_rfl) H enc W n _ y3.1 y3.2 (Nat.le_refl _) h3
     obtain ⟨f,r4,_,_⟩:=Hq (F:=n) Tryz.underlying4 (by kernel_rfl) H enc W n _ y4.1 y4.2 (Nat.le_refl _) h4
     simp only [Prod.mk.injEq] at e1
     obtain ⟨rfl,_⟩:=e1
     have r0 : au [] (old W) W [.v (.int .u8 k)] [c0]:=r0
     have r1 : au [] (old W) W [.str t] [c1]:=r1
     have r2 : au [] (old W) W [int m] [c2]:=r2
     have r3 : au [] (old W) W [.str u] [c3]:=r3
     have r4 : au [] (old W) W [bool f] [c4]:=r4
     refine ⟨(k,t,m,u,f),(((r0.append r1).append r2).append r3).append r4,by rw [show Tryz.prog.cellsOf 101 = 5 by kernel_rfl];rfl, ?_⟩
     simp only at z1 z3
     rw [Rows.uptoBulk]
     simp only [List.map_cons,List.map_nil,Rows.uptoBulkAll]
     omega
theorem Ff {F : Nat} (hL : OpB F Tryz.prog 63 (fun l : List Vl=>[.sl 6 (aV l)]) (fun l=>zVs l + 1)) : OpB (F + 1) Tryz.prog 103 cy zV:=by
 intro H enc W fuel cs d ps hF h
 obtain ⟨xs,n,rfl,e1,hl,hn,hf⟩:=DataW.trod_struct Tryz.underlying103 h
 match xs,hn with
 | [y0,y1],_ =>
   have h0:=hf 0 _ rfl
   have h1:=hf 1 _ rfl
   rw [show Tryz.prog.cellsOf 103 = 6 by kernel_rfl] at hl
   match cs,hl with
   | [c0,c1,c2,c3,c4,c5],_ =>
     obtain ⟨⟨k,t,m,u,f⟩,r0,_,z0⟩:=Fb n H enc W n _ y0.1 y0.2 (Nat.le_refl _) h0
     obtain ⟨l,r1,_,z1⟩:=hL H enc W n _ y1.1 y1.2 (by omega) h1
     simp only [Prod.mk.injEq] at e1
     obtain ⟨rfl,_⟩:=e1
     have r0 : au [] (old W) W (H0 (k,t,m,u,f)) [c0,c1,c2,c3,c4]:=r0
     have r1 : au [] (old W) W [.sl 6 (aV l)] [c5]:=r1
     refine ⟨.mk k t m u f l, ?_,by rw [show Tryz.prog.cellsOf 103 = 6 by kernel_rfl];rfl, ?_⟩
     ·rw [cy]
      exact r0.append r1
     ·simp only at z0 z1
      rw [zV,Rows.uptoBulk]
      simp only [List.map_cons,List.map_nil,Rows.uptoBulkAll]
      omega
theorem xp : ∀ F,OpB F Tryz.prog 103 cy zV
 | 0=>fun H enc W fuel cs d ps hF h=>by
   obtain rfl : fuel = 0:=by omega
   simp [DataW.trod] at h
 | F + 1=>by
   have a:=l6 Tryz.underlying63 (by kernel_rfl) (Nat.le_of_ble_eq_true (by kernel_rfl)) (xp F)
   rw [show Tryz.prog.cellsOf 103 = 6 by kernel_rfl] at a
   simp only [uf,← bf] at a
   exact Ff a
theorem Hr (F : Nat) : OpB F Tryz.prog 63 (fun l : List Vl=>[.sl 6 (aV l)]) (fun l=>zVs l + 1):=by
 have a:=l6 Tryz.underlying63 (by kernel_rfl) (Nat.le_of_ble_eq_true (by kernel_rfl)) (xp F)
 rw [show Tryz.prog.cellsOf 103 = 6 by kernel_rfl] at a
 simpa only [uf,← bf] using a
end Go.Proofs.YtfageokhpklkbaaGreatDoor
end

section
namespace Go.Proofs.YtfageokhpklkbaaGreatDoor
open Go Go.Aw Go.Nst Go.ChangeShapes Go.WideShapes Go.ChangeAt Go.RowKit
set_option maxRecDepth 100000
theorem Ms {n : Int} (h : (Lit.int .i64 n).wf = true) : inI n:=by
 simp [Lit.wf,IntKind.min,IntKind.max,IntKind.signed,IntKind.bits] at h
 unfold inI;omega
theorem JQ {F : Nat} {P : Program} {t : TypeId} (ht : P.underlying t = some (.int .i64)) (hc : P.cellsOf t = 1) : OpB F P t (fun n : {n : Int // inI n} => [int n.1]) (fun _=>1):=by
 intro H enc W fuel cs d ps _ h
 obtain ⟨n,rfl,e,hn⟩:=DataW.trod_int ht h
 simp only [Prod.mk.injEq] at e
 obtain ⟨rfl,_⟩:=e
 exact ⟨⟨n,Ms hn⟩,by simp,by simp [hc],by simp [Rows.uptoBulk]⟩
theorem E9 (F : Nat) : OpB F Tryz.prog 36 (fun x : Int × Int × Int × Int=>[.v (.int .u8 x.1),.v (.int .u8 x.2.1),.v (.int .u8 x.2.2.1),.v (.int .u8 x.2.2.2)]) (fun _=>1):=by
 intro H enc W fuel cs d ps hF h
 obtain ⟨xs,n,rfl,e1,hl,hn,hf⟩:=DataW.trod_struct Tryz.underlying36 h
 match xs,hn with
 | [y0,y1,y2,y3],_ =>
   have h0:=hf 0 _ rfl
   have h1:=hf 1 _ rfl
   have h2:=hf 2 _ rfl
   have h3:=hf 3 _ rfl
   rw [show Tryz.prog.cellsOf 36 = 4 by kernel_rfl] at hl
   match cs,hl with
   | [c0,c1,c2,c3],_ =>
     obtain ⟨a,r0,_,z0⟩:=jz (F:=n) Tryz.underlying5 (by kernel_rfl) H enc W n _ y0.1 y0.2 (Nat.le_refl _) h0
     obtain ⟨b,r1,_,z1⟩:=jz (F:=n) Tryz.underlying5 (by kernel_rfl) H enc W n _ y1.1 y1.2 (Nat.le_refl _) h1
     obtain ⟨c,r2,_,z2⟩:=jz (F:=n) Tryz.underlying5 (by kernel_rfl) H enc W n _ y2.1 y2.2 (Nat.le_refl _) h2
     obtain ⟨e,r3,_,z3⟩:=jz (F:=n) Tryz.underlying5 (by kernel_rfl) H enc W n _ y3.1 y3.2 (Nat.le_refl _) h3
     simp only [Prod.mk.injEq] at e1
     obtain ⟨rfl,_⟩:=e1
     have r0 : au [] (old W) W [.v (.int .u8 a)] [c0]:=r0
     have r1 : au [] (old W) W [.v (.int .u8 b)] [c1]:=r1
     have r2 : au [] (old W) W [.v (.int .u8 c)] [c2]:=r2
     have r3 : au [] (old W) W [.v (.int .u8 e)] [c3]:=r3
     refine ⟨(a,b,c,e),((r0.append r1).append r2).append r3,by rw [show Tryz.prog.cellsOf 36 = 4 by kernel_rfl];rfl, ?_⟩
     show 1 ≤ _
     rw [Rows.uptoBulk];omega
theorem JR (F : Nat) : OpB F Tryz.prog 38 (fun v : {v : Vv // inI v.num} => bS v.1) (fun _=>1):=by
 intro H enc W fuel cs d ps hF h
 obtain ⟨xs,n,rfl,e1,hl,hn,hf⟩:=DataW.trod_struct Tryz.underlying38 h
 match xs,hn with
 | [y0,y1,y2,y3],_ =>
   have h0:=hf 0 _ rfl
   have h1:=hf 1 _ rfl
   have h2:=hf 2 _ rfl
   have h3:=hf 3 _ rfl
   rw [show Tryz.prog.cellsOf 38 = 7 by kernel_rfl] at hl
   match cs,hl with
   | [c0,c1,c2,c3,c4,c5,c6],_ =>
     obtain ⟨k,r0,_,z0⟩:=jz (F:=n) Tryz.underlying5 (by kernel_rfl) H enc W n _ y0.1 y0.2 (Nat.le_refl _) h0
     obtain ⟨w,r1,_,z1⟩:=kq (F:=n) Tryz.underlying9 (by kernel_rfl) H enc W n _ y1.1 y1.2 (Nat.le_refl _) h1
     obtain ⟨⟨m,hm⟩,r2,_,z2⟩:=JQ (F:=n) Tryz.underlying2 (by kernel_rfl) H enc W n _ y2.1 y2.2 (Nat.le_refl _) h2
     obtain ⟨⟨a,b,c,e⟩,r3,_,z3⟩:=E9 n H enc W n _ y3.1 y3.2 (Nat.le_refl _) h3
     simp only [Prod.mk.injEq] at e1
     obtain ⟨rfl,_⟩:=e1
     have r0 : au [] (old W) W [.v (.int .u8 k)] [c0]:=r0
     have r1 : au [] (old W) W [.str w] [c1]:=r1
     have r2 : au [] (old W) W [int m] [c2]:=r2
     have r3 : au [] (old W) W [.v (.int .u8 a),.v (.int .u8 b),.v (.int .u8 c),.v (.int .u8 e)] [c3,c4,c5,c6]:=r3
     refine ⟨⟨⟨k,w,m,a,b,c,e⟩,hm⟩,((r0.append r1).append r2).append r3,by rw [show Tryz.prog.cellsOf 38 = 7 by kernel_rfl];rfl, ?_⟩
     show 1 ≤ _
     rw [Rows.uptoBulk];omega
theorem Dx (F : Nat) : OpB F Tryz.prog 65 bX (fun x=>zVs x.value + 1):=by
 intro H enc W fuel cs d ps hF h
 obtain ⟨xs,n,rfl,e1,hl,hn,hf⟩:=DataW.trod_struct Tryz.underlying65 h
 match xs,hn with
 | [y0,y1],_ =>
   have h0:=hf 0 _ rfl
   have h1:=hf 1 _ rfl
   rw [show Tryz.prog.cellsOf 65 = 2 by kernel_rfl] at hl
   match cs,hl with
   | [c0,c1],_ =>
     obtain ⟨nm,r0,_,z0⟩:=kq (F:=n) Tryz.underlying9 (by kernel_rfl) H enc W n _ y0.1 y0.2 (Nat.le_refl _) h0
     obtain ⟨vs,r1,_,z1⟩:=Hr n H enc W n _ y1.1 y1.2 (Nat.le_refl _) h1
     simp only [Prod.mk.injEq] at e1
     obtain ⟨rfl,_⟩:=e1
     have r0 : au [] (old W) W [.str nm] [c0]:=r0
     have r1 : au [] (old W) W [.sl 6 (aV vs)] [c1]:=r1
     refine ⟨⟨nm,vs⟩,r0.append r1,by rw [show Tryz.prog.cellsOf 65 = 2 by kernel_rfl];rfl, ?_⟩
     simp only at z0 z1
     show zVs vs + 1 ≤ _
     rw [Rows.uptoBulk]
     simp only [List.map_cons,List.map_nil,Rows.uptoBulkAll]
     omega
theorem Fc (F : Nat) : OpB F Tryz.prog 22 (fun l : List {v : Vv // inI v.num} => [.sl 7 (bC (l.map (·.1)))]) (fun l=>l.length + 1):=by
 have a:=l6 Tryz.underlying22 (by kernel_rfl) (Nat.le_of_ble_eq_true (by kernel_rfl)) (JR F)
 rw [show Tryz.prog.cellsOf 38 = 7 by kernel_rfl] at a
 have e : ∀ l : List {v : Vv // inI v.num},(l.map fun _=>1).sum = l.length:=fun l=>by induction l <;> simp_all <;> omega
 simp only [e] at a
 simpa [bC,Function.comp_def] using a
theorem yn (F : Nat) : OpB F Tryz.prog 23 (fun l : List Cu=>[.sl 2 (aq l)]) (fun l=>(l.map fun x=>zVs x.value + 1).sum + 1):=by
 have a:=l6 Tryz.underlying23 (by kernel_rfl) (Nat.le_of_ble_eq_true (by kernel_rfl)) (Dx F)
 rw [show Tryz.prog.cellsOf 65 = 2 by kernel_rfl] at a
 exact a
theorem Fa (F : Nat) : OpB F Tryz.prog 25 (fun x : {x : Sy // ∀ v ∈ x.az,inI v.num} => fE x.1) (fun x=>x.1.az.length + (x.1.db.map fun x=>zVs x.value + 1).sum):=by
 intro H enc W fuel cs d ps hF h
 obtain ⟨xs,n,rfl,e1,hl,hn,hf⟩:=DataW.trod_struct Tryz.underlying25 h
 match xs,hn with
 | [y0,y1],_ =>
   have h0:=hf 0 _ rfl
   have h1:=hf 1 _ rfl
   rw [show Tryz.prog.cellsOf 25 = 2 by kernel_rfl] at hl
   match cs,hl with
   | [c0,c1],_ =>
     obtain ⟨l,r0,_,z0⟩:=Fc n H enc W n _ y0.1 y0.2 (Nat.le_refl _) h0
     obtain ⟨m,r1,_,z1⟩:=yn n H enc W n _ y1.1 y1.2 (Nat.le_refl _) h1
     simp only [Prod.mk.injEq] at e1
     obtain ⟨rfl,_⟩:=e1
     have r0 : au [] (old W) W [.sl 7 (bC (l.map (·.1)))] [c0]:=r0
     have r1 : au [] (old W) W [.sl 2 (aq m)] [c1]:=r1
     refine ⟨⟨⟨l.map (fun v : {v : Vv // inI v.num} => v.1),m⟩,fun v hv=>by obtain ⟨x,_,rfl⟩:=List.mem_map.1 hv;exact x.2⟩,(show au [] (old W) W ([.sl 7 (bC (l.map (·.1)))] ++ [.sl 2 (aq m)]) ([c0] ++ [c1]) from r0.append r1),by rw [show Tryz.prog.cellsOf 25 = 2 by kernel_rfl];rfl, ?_⟩
     simp only at z0 z1
     show (l.map (·.1)).length + (m.map fun x=>zVs x.value + 1).sum ≤ _
     rw [List.length_map]
     rw [Rows.uptoBulk]
     simp only [List.map_cons,List.map_nil,Rows.uptoBulkAll]
     omega
theorem AO {α : Type} {f : α → Nat} : ∀ {l : List α} {x : α},x ∈ l → f x ≤ (l.map f).sum
 | [],x,h=>by cases h
 | y :: l,x,h=>by
   rw [List.map_cons,List.sum_cons]
   rcases List.mem_cons.1 h with rfl|h
   ·omega
   ·have:=AO (f:=f) h;omega
theorem AN {α : Type} {f : α → Nat} (hf : ∀ x,1 ≤ f x) : ∀ (l : List α),l.length ≤ (l.map f).sum
 | []=>by simp
 | y :: l=>by
   rw [List.map_cons,List.sum_cons,List.length_cons]
   have:=AN hf l;have:=hf y;omega
theorem HG {H : Type} {enc : TypeId × Value → H} {W : World} {v : Value} {d : DataW H} {ps : List MemPlace} (hv : ∃ cs,v = .agg cs) (h : DataW.Trod enc Tryz.prog W 0 (fun _=>true) true 25 v d ps) (hb : Rows.uptoBulk d ≤ 1048576) :
 ∃ x : Sy,Rep [] (old W) W (.agg (fE x)) v ∧ p8 x ∧ x.az.length < 2 ^ 40:=by
 obtain ⟨cs,rfl⟩:=hv
 obtain ⟨fuel,h⟩:=h
 obtain ⟨⟨x,hx⟩,h2,_,h4⟩:=Fa fuel H enc W fuel _ d ps (Nat.le_refl _) h
 simp only at h2 h4
 have h5:=AN (f:=fun x : Cu=>zVs x.value + 1) (fun _=>by omega) x.db
 refine ⟨x, ?_,⟨hx,by omega,fun c hc=>?_⟩,by omega⟩
 ·rw [Rep]
  exact ⟨cs.toList,by simp,h2⟩
 ·have:=AO (f:=fun x : Cu=>zVs x.value + 1) hc
  omega
end Go.Proofs.YtfageokhpklkbaaGreatDoor
end
