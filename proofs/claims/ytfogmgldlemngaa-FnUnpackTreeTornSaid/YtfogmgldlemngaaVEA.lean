/- V-logic: Defs L0 Vc Sound1 Sound2 Sound3 Sound4 -/
import Derived.Calls
import Derived.Below
import Derived.Orders
import Derived.Laws.Cells
import Derived.Laws.Rows
import Derived.WalkKit
namespace Go.VL
set_option linter.unusedVariables false
set_option linter.unusedSimpArgs false
structure Pr where
 key:Int
 value:Int
structure Pg where
 keys:List Int
 kids:List Int
 vals:List Int
structure Lk where
 keys:List Int
 high:Int
 right:Int
structure Opn where
 kind:Int
 key:Int
 value:Int
inductive C where
 |int (k:IntKind) (n:Int)
 |bool (b:Bool)
 |nums (k:IntKind) (xs:List Int)
 |bools (xs:List Bool)
 |prs (xs:List Pr)
 |pgs (xs:List Pg)
 |lks (xs:List Lk)
 |ops (xs:List Opn)
 |numss (xs:List (List Int))
 |prss (xs:List (List Pr))
def C.isSl:C→Bool
 |.int _ _=>false
 |.bool _=>false
 |_=>true
def C.len:C→Nat
 |.int _ _=>0
 |.bool _=>0
 |.nums _ xs=>xs.length
 |.bools xs=>xs.length
 |.prs xs=>xs.length
 |.pgs xs=>xs.length
 |.lks xs=>xs.length
 |.ops xs=>xs.length
 |.numss xs=>xs.length
 |.prss xs=>xs.length
def C.stride:C→Nat
 |.prs _=>2
 |.pgs _=>3
 |.lks _=>3
 |.ops _=>3
 |_=>1
def Pr.row (p:Pr):List C:=[.int .i64 p.key,.int .i64 p.value]
def Pg.row (p:Pg):List C:=[.nums .i64 p.keys,.nums .i64 p.kids,.nums .i64 p.vals]
def Lk.row (p:Lk):List C:=[.nums .i64 p.keys,.int .i64 p.high,.int .i64 p.right]
def Opn.row (p:Opn):List C:=[.int .i64 p.kind,.int .i64 p.key,.int .i64 p.value]
def C.row:C→Nat→List C
 |.int _ _,_=>[]
 |.bool _,_=>[]
 |.nums k xs,i=>[.int k (xs.getD i 0)]
 |.bools xs,i=>[.bool (xs.getD i false)]
 |.prs xs,i=>(xs.getD i ⟨0,0⟩).row
 |.pgs xs,i=>(xs.getD i ⟨[],[],[]⟩).row
 |.lks xs,i=>(xs.getD i ⟨[],0,0⟩).row
 |.ops xs,i=>(xs.getD i ⟨0,0,0⟩).row
 |.numss xs,i=>[.nums .i64 (xs.getD i [])]
 |.prss xs,i=>[.prs (xs.getD i [])]
inductive RC (I:Nat→Prop) (w:World):C→Value→Prop
 |int (k:IntKind) (n:Int):RC I w (.int k n) (.int k n)
 |bool (b:Bool):RC I w (.bool b) (.bool b)
 |empty (c:C) (a:Option Addr) (cap:Nat) (hs:c.isSl=true) (h0:c.len=0):RC I w c (.slice a 0 cap)
 |sl (c:C) (b off cap:Nat) (val:Nat→Nat→Value) (hs:c.isSl=true) (hI:I b) (hcap:c.len≤cap)
   (hc:∀(i j:Nat) x,i<c.len→(c.row i)[j]? = some x→w.cell? ⟨b,off+i*c.stride+j,none⟩=some (val i j))
   (hr:∀(i j:Nat) x,i<c.len→(c.row i)[j]? = some x→RC I w x (val i j)) :
   RC I w c (.slice (some ⟨b,off,none⟩) c.len cap)
inductive V where
 |any
 |tt
 |ff
 |nil
 |c (x:C)
 |agg (xs:List V)
 |tup (xs:List V)
 |iptr (row:List C)
 |ptr (id i st j:Nat)
 |slc (id:Nat)
 |fn (f:Nat) (caps:List V)
abbrev Gam:=Nat→Option (Nat×Nat×Nat)
inductive RV (I:Nat→Prop) (g:Gam) (n:Nat) (w:World):V→Value→Prop
 |any (v:Value):RV I g n w .any v
 |tt:RV I g n w .tt (.bool true)
 |ff:RV I g n w .ff (.bool false)
 |nil:RV I g n w .nil (.slice none 0 0)
 |c (x:C) (v:Value) (h:RC I w x v):RV I g n w (.c x) v
 |agg (xs:List V) (vs:List Value) (hl:xs.length=vs.length)
   (h:∀(i:Nat) x v,xs[i]? = some x→vs[i]? = some v→RV I g n w x v):RV I g n w (.agg xs) (.agg vs.toArray)
 |tup (xs:List V) (vs:List Value) (hl:xs.length=vs.length)
   (h:∀(i:Nat) x v,xs[i]? = some x→vs[i]? = some v→RV I g n w x v):RV I g n w (.tup xs) (.tuple vs.toArray)
 |iptr (row:List C) (b off:Nat) (val:Nat→Value) (hI:I b)
   (hc:∀(j:Nat) x,row[j]? = some x→w.cell? ⟨b,off+j,none⟩=some (val j))
   (hr:∀(j:Nat) x,row[j]? = some x→RC I w x (val j)):RV I g n w (.iptr row) (.pointer (some ⟨b,off,none⟩))
 |ptr (id i st j b:Nat) (cl:Nat×Nat) (hn:id<n) (hg:g id=some (b,cl)):RV I g n w (.ptr id i st j) (.pointer (some ⟨b,i*st+j,none⟩))
 |slc (id len b cap:Nat) (hn:id<n) (hg:g id=some (b,cap,len)):RV I g n w (.slc id) (.slice (some ⟨b,0,none⟩) len cap)
 |slc0 (id:Nat) (hn:id<n) (hg:g id=none):RV I g n w (.slc id) (.slice none 0 0)
 |fn (f:Nat) (xs:List V) (vs:List Value) (hl:xs.length=vs.length)
   (h:∀(i:Nat) x v,xs[i]? = some x→vs[i]? = some v→RV I g n w x v):RV I g n w (.fn f xs) (.func (.func f) #[] vs.toArray)
inductive O where
 |box (pre:List V) (bs:List Bool) (post:List V)
 |arr (x:C)
 |hol (x:C) (hi:Nat) (vs:List V)
 |deep (p:Bool) (f:Nat) (x:C) (hs:List (Nat×List V))
def O.isBox:O→Bool
 |.box ..=>true
 |.arr _=>false
 |.hol _ _ _=>false
 |.deep p _ _ _=>p
inductive NC (w:World):C→Value→Prop
 |int (k:IntKind) (n:Int):NC w (.int k n) (.int k n)
 |bool (b:Bool):NC w (.bool b) (.bool b)
 |nil (k:IntKind):NC w (.nums k []) (.slice none 0 0)
 |sl (k:IntKind) (xs:List Int) (b cap:Nat) (cells:List Value) (ty:TypeId) (hb:w.heap[b]? = some (.cells cells.toArray ty (0,0))) (hl:cells.length=cap) (hc:xs.length≤cap)
   (h:∀(i:Nat) m,xs[i]? = some m→cells[i]? = some (.int k m)):NC w (.nums k xs) (.slice (some ⟨b,0,none⟩) xs.length cap)
def zb8 (f:Nat) (x:C) (ks:List Nat) (k:Nat):Prop:=∃i j,k=i*x.stride+j∧j<x.stride∧f≤i∧i<x.len∧i∉ks
def zx (hs:List (Nat×List V)):List Nat:=hs.map (·.1)
def zc5 (v:Value):Prop:=∃a len cap,v=.slice a len cap
def C.isPg:C→Bool
 |.pgs _=>true
 |_=>false
inductive RO (I:Nat→Prop) (g:Gam) (n:Nat) (w:World) (id:Nat):O→Prop
 |box (pre:List V) (bs:List Bool) (post:List V) (b:Nat) (cl:Nat×Nat) (cells:List Value) (ty:TypeId) (hg:g id=some (b,cl))
   (hb:w.heap[b]? = some (.cells cells.toArray ty (0,0))) (hl:cells.length=pre.length+bs.length+post.length)
   (h1:∀(i:Nat) x v,pre[i]? = some x→cells[i]? = some v→RV I g n w x v)
   (h2:∀(i:Nat) x,bs[i]? = some x→cells[pre.length+i]? = some (.bool x))
   (h3:∀(i:Nat) x v,post[i]? = some x→cells[pre.length+bs.length+i]? = some v→RV I g n w x v):RO I g n w id (.box pre bs post)
 |none (x:C) (hg:g id=none) (hs:x.isSl=true) (h0:x.len=0):RO I g n w id (.arr x)
 |arr (x:C) (b cap:Nat) (cells:List Value) (ty:TypeId) (hg:g id=some (b,cap,x.len)) (hs:x.isSl=true)
   (hb:w.heap[b]? = some (.cells cells.toArray ty (0,0))) (hl:cells.length=cap*x.stride) (hcap:x.len≤cap)
   (h:∀(i j:Nat) y,i<x.len→(x.row i)[j]? = some y→∃v,cells[i*x.stride+j]? = some v∧RC I w y v)
   (ht:x.isPg=true→∀v∈cells,zc5 v):RO I g n w id (.arr x)
 |hol (x:C) (hi:Nat) (vs:List V) (b cap:Nat) (cells:List Value) (ty:TypeId) (hg:g id=some (b,cap,x.len)) (hs:x.isSl=true)
   (hb:w.heap[b]? = some (.cells cells.toArray ty (0,0))) (hl:cells.length=cap*x.stride) (hcap:x.len≤cap) (hhi:hi<x.len) (hv:vs.length=x.stride)
   (h:∀(i j:Nat) y,i<x.len→i≠hi→(x.row i)[j]? = some y→∃v,cells[i*x.stride+j]? = some v∧RC I w y v)
   (h2:∀(j:Nat),j<x.stride→∃u v,vs[j]? = some u∧cells[hi*x.stride+j]? = some v∧v.oneCell'=true∧RV I g n w u v)
   (ht:x.isPg=true→∀v∈cells,zc5 v):RO I g n w id (.hol x hi vs)
 |deep0 (p:Bool) (f:Nat) (x:C) (hg:g id=none) (hs:x.isSl=true) (h0:x.len=0):RO I g n w id (.deep p f x [])
 |deep (p:Bool) (f:Nat) (x:C) (hs:List (Nat×List V)) (b cap:Nat) (cells:List Value) (ty:TypeId) (hg:g id=some (b,cap,x.len)) (hsl:x.isSl=true)
   (hb:w.heap[b]? = some (.cells cells.toArray ty (0,0))) (hl:cells.length=cap*x.stride) (hcap:x.len≤cap)
   (hh:∀i us,(i,us)∈hs→i<x.len∧us.length=x.stride) (hkn:(zx hs).Nodup)
   (h:∀(i j:Nat) y,f≤i→i<x.len→i∉zx hs→(x.row i)[j]? = some y→∃v,cells[i*x.stride+j]? = some v∧NC w y v)
   (h2:∀i us,(i,us)∈hs→∀(j:Nat),j<x.stride→∃u v,us[j]? = some u∧cells[i*x.stride+j]? = some v∧v.oneCell'=true∧RV I g n w u v)
   (hd:∀k k' b' o l c o' l' c',zb8 f x (zx hs) k→zb8 f x (zx hs) k'→cells[k]? = some (.slice (some ⟨b',o,none⟩) l c)→cells[k']? = some (.slice (some ⟨b',o',none⟩) l' c')→k=k'∧b'≠b)
   (ht:x.isPg=true→∀v∈cells,zc5 v):RO I g n w id (.deep p f x hs)
def Nst (g:Gam) (w:World) (id:Nat) (o:O) (b:Nat):Prop :=
 match o with
 |.deep _ f x hs=>∃b0 cl k off len cap,g id=some (b0,cl)∧zb8 f x (zx hs) k∧w.cell? ⟨b0,k,none⟩=some (.slice (some ⟨b,off,none⟩) len cap)
 |_=>False
def Own (g:Gam) (w:World) (id:Nat) (o:O) (b:Nat):Prop:=(∃cl,g id=some (b,cl))∨Nst g w id o b
structure HOk (I:Nat→Prop) (g:Gam) (n:Nat) (w:World) (hp:List (Nat×O)):Prop where
 obj:∀id o,(id,o)∈hp→id<n∧RO I g n w id o
 apart:∀id o b,(id,o)∈hp→Own g w id o b→¬I b∧b<w.heap.size
 nodup:(hp.map (·.1)).Nodup
 inj:∀id o id' o' b,(id,o)∈hp→(id',o')∈hp→Own g w id o b→Own g w id' o' b→id=id'
structure Fr (D:Nat→Prop) (W w:World):Prop where
 os:w.os=W.os
 tape:w.tape=W.tape
 output:w.output=W.output
 size:W.heap.size≤w.heap.size
 block:∀b,b<W.heap.size→¬D b→w.heap[b]? = W.heap[b]?
def Dom (g:Gam) (w:World) (hp:List (Nat×O)) (b:Nat):Prop:=∃id o,(id,o)∈hp∧Own g w id o b
def zhw (P : Program) (f : Nat) : Prop := ∃ fn, P.funcs[f]? = some fn ∧ (fn.name == "runtime.NumGoroutine") = false ∧ fn.body.isNone = false
def zte (W:World) (I:Nat→Prop) (g:Gam) (hin:List (Nat×O)) (m:Nat) (res:V) (hout:List (Nat×O)) (e:Ending) (w':World):Prop :=
 ∃(v:Value) (I':Nat→Prop) (g':Gam),e=.returned v ∧
   (∀b,I b→I' b)∧(∀b,I' b→I b∨W.heap.size≤b∨Dom g W hin b)∧(∀b,I' b→b<w'.heap.size) ∧
   HOk I' g' m w' hout∧RV I' g' m w' res v ∧
   (∀id o o',(id,o)∈hin→(id,o')∈hout→o'.isBox=true→g' id=g id) ∧
   (∀b,Dom g' w' hout b→W.heap.size≤b∨Dom g W hin b)∧Fr (Dom g W hin) W w'
def zr (P:Program) (f n:Nat) (args:List V) (hin:List (Nat×O)) (m:Nat) (res:V) (hout:List (Nat×O)):Prop :=
 zhw P f∧∀(W:World) (I:Nat→Prop) (g:Gam) (argv:List Value),
  (∀b,I b→b<W.heap.size)→HOk I g n W hin→args.length=argv.length →
  (∀(i:Nat) x v,args[i]? = some x→argv[i]? = some v→RV I g n W x v) →
  Calls P f argv.toArray W (zte W I g hin m res hout)
def zce (P:Program) (f n:Nat) (args:List V) (hin:List (Nat×O)) (R:Nat→V→List (Nat×O)→Prop):Prop :=
 zhw P f∧∀(W:World) (I:Nat→Prop) (g:Gam) (argv:List Value),
  (∀b,I b→b<W.heap.size)→HOk I g n W hin→args.length=argv.length →
  (∀(i:Nat) x v,args[i]? = some x→argv[i]? = some v→RV I g n W x v) →
  Calls P f argv.toArray W fun e w'=>∃m res hout,R m res hout∧zte W I g hin m res hout e w'
theorem zik {α:Type} (xs:List α) (k i:Nat) (d:α) (h:i<k):(xs.take k).getD i d=xs.getD i d:=by
 simp[List.getD,h]
theorem z7 {α:Type} (xs:List α) (x d:α) (k i:Nat) (hk:k<xs.length):(xs.set k x).getD i d=if i=k then x else xs.getD i d:=by
 simp only[List.getD,List.getElem?_set]
 by_cases h:k=i
 ·subst h;simp[hk]
 ·have:¬i=k:=fun e=>h e.symm
  simp[h,this]
theorem zg0 {α:Type} (d:α) {xs:List α} {i:Nat} (h:i<xs.length):xs.drop i=xs.getD i d::xs.drop (i+1):=by
 rw[List.drop_eq_getElem_cons h];simp[h]
theorem zat {α:Type} (d:α) {xs:List α} {i:Nat} (h:i<xs.length):xs.take (i+1)=xs.take i++[xs.getD i d]:=by
 rw[List.take_add_one];simp[h]
theorem zdp {α:Type} (d:α) (a b:List α) (i:Nat):(a++b).getD i d=if i<a.length then a.getD i d else b.getD (i-a.length) d:=by
 simp only[List.getD_eq_getElem?_getD,List.getElem?_append]
 split<;>rfl
inductive Kd where
 |nums (k:IntKind)
 |bools
 |prs
 |pgs
 |lks
 |ops
 |numss
 |prss
def Kd.empty:Kd→C
 |.nums k=>.nums k []
 |.bools=>.bools []
 |.prs=>.prs []
 |.pgs=>.pgs []
 |.lks=>.lks []
 |.ops=>.ops []
 |.numss=>.numss []
 |.prss=>.prss []
def Kd.zeros:Kd→Nat→C
 |.nums k,n=>.nums k (List.replicate n 0)
 |.bools,n=>.bools (List.replicate n false)
 |.prs,n=>.prs (List.replicate n ⟨0,0⟩)
 |.pgs,n=>.pgs (List.replicate n ⟨[],[],[]⟩)
 |.lks,n=>.lks (List.replicate n ⟨[],0,0⟩)
 |.ops,n=>.ops (List.replicate n ⟨0,0,0⟩)
 |.numss,n=>.numss (List.replicate n [])
 |.prss,n=>.prss (List.replicate n [])
inductive TI where
 |bad
 |prim (z:V)
 |slice (e sz bytes:Nat) (kd:Kd)
 |struct (fs:List (Nat×Nat×Bool)) (zs:List V)
 |arr (n e:Nat) (kd:Kd)
 |boxb (fs:List (Nat×Nat×Bool)) (pre:List V) (n:Nat) (post:List V)
abbrev TT:=Nat→TI
structure S where
 nt:Nat
 nx:Nat
 env:List (Nat×V)
 hp:List (Nat×O)
def zaw:List (Nat×V)→Nat→V
 |[],_=>.any
 |(k,v)::t,j=>match Nat.beq k j with|true=>v|false=>zaw t j
def zq:List (Nat×O)→Nat→Option O
 |[],_=>none
 |(k,v)::t,j=>match Nat.beq k j with|true=>some v|false=>zq t j
def zbu:List (Nat×O)→Nat→List (Nat×O)
 |[],_=>[]
 |(k,v)::t,j=>match Nat.beq k j with|true=>t|false=>(k,v)::zbu t j
def zac:List (Nat×O)→Nat→O→List (Nat×O)
 |[],_,_=>[]
 |(k,v)::t,j,o=>match Nat.beq k j with|true=>(k,o)::t|false=>(k,v)::zac t j o
def zil:Value→V
 |.int k n=>V.c (C.int k n)
 |.bool true=>.tt
 |.bool false=>.ff
 |.slice none 0 0=>.nil
 |.tuple vs=>match vs.toList with | []=>.tup []|_=>.any
 |_=>.any
def evl (env:List (Nat×V)):Operand→V
 |.tmp t=>zaw env t
 |.const v=>zil v
 |.func f=>.fn f []
 |.global _=>.any
def C.force (x:C) (K:C→Prop):Prop :=
 match x with
 |.int k n=>K (.int k n)
 |.bool b=>K (.bool b)
 |.nums k xs=>K (.nums k xs)
 |.bools xs=>K (.bools xs)
 |.prs xs=>K (.prs xs)
 |.pgs xs=>K (.pgs xs)
 |.lks xs=>K (.lks xs)
 |.ops xs=>K (.ops xs)
 |.numss xs=>K (.numss xs)
 |.prss xs=>K (.prss xs)
def nf (n:Nat) (K:Nat→Prop):Prop :=
 match n with
 |0=>K 0
 |k+1=>K (k+1)
def V.force1 (v:V) (K:V→Prop):Prop :=
 match v with
 |.any=>K .any
 |.tt=>K .tt
 |.ff=>K .ff
 |.nil=>K .nil
 |.c x=>x.force fun x=>K (.c x)
 |.agg xs=>K (.agg xs)
 |.tup xs=>K (.tup xs)
 |.iptr r=>K (.iptr r)
 |.ptr a1 a2 a3 a4=>nf a1 fun a1=>nf a3 fun a3=>nf a4 fun a4=>K (.ptr a1 a2 a3 a4)
 |.slc a1=>nf a1 fun a1=>K (.slc a1)
 |.fn f cs=>K (.fn f cs)
def zem:List V→(List V→Prop)→Prop
 |[],K=>K []
 |v::t,K=>v.force1 fun v=>zem t fun t=>K (v::t)
def V.force2 (v:V) (K:V→Prop):Prop :=
 match v with
 |.agg xs=>zem xs fun xs=>K (.agg xs)
 |v=>v.force1 K
def zni:List V→(List V→Prop)→Prop
 |[],K=>K []
 |v::t,K=>v.force2 fun v=>zni t fun t=>K (v::t)
def V.force (v:V) (K:V→Prop):Prop :=
 match v with
 |.tup xs=>zni xs fun xs=>K (.tup xs)
 |v=>v.force2 K
def S.put (s:S) (dst:Option Nat) (v:V) (K:S→Prop):Prop :=
 match s with
 |⟨nt,nx,env,hp⟩=>match dst with
  |none=>K ⟨nt,nx,env,hp⟩
  |some d=>match Nat.blt d nt with
   |true=>v.force fun v=>K ⟨nt,nx,(d,v)::env,hp⟩
   |false=>False
def zp3:List (Nat×V)→(List (Nat×V)→Prop)→Prop
 |[],K=>K []
 |(k,v)::t,K=>v.force fun v=>zp3 t fun t=>K ((k,v)::t)
def znd:List (Nat×List V)→(List (Nat×List V)→Prop)→Prop
 |[],K=>K []
 |(i,vs)::t,K=>zem vs fun vs=>znd t fun t=>K ((i,vs)::t)
def zes:List (Nat×O)→(List (Nat×O)→Prop)→Prop
 |[],K=>K []
 |(k,o)::t,K=>nf k fun k=>match o with
  |.arr x=>x.force fun x=>zes t fun t=>K ((k,.arr x)::t)
  |.hol x hi vs=>x.force fun x=>zem vs fun vs=>zes t fun t=>K ((k,.hol x hi vs)::t)
  |.deep p f x hs=>x.force fun x=>znd hs fun hs=>zes t fun t=>K ((k,.deep p f x hs)::t)
  |.box pre bs post=>zem pre fun pre=>zem post fun post=>zes t fun t=>K ((k,.box pre bs post)::t)
def S.force (s:S) (K:S→Prop):Prop :=
 match s with
 |⟨nt,nx,env,hp⟩=>nf nt fun nt=>nf nx fun nx=>zp3 env fun env=>zes hp fun hp=>K ⟨nt,nx,env,hp⟩
def S.withHp (s:S) (hp:List (Nat×O)) (K:S→Prop):Prop :=
 match s with
 |⟨nt,nx,env,_⟩=>zes hp fun hp=>K ⟨nt,nx,env,hp⟩
def V.slB:V→Bool
 |.slc _=>true
 |.nil=>true
 |.c x=>x.isSl
 |_=>false
def slL:List V→Bool
 |[]=>true
 |v::t=>match v.slB with|true=>slL t|false=>false
def zhg (x:C) (cs:List V):Bool :=
 match x.isPg with
 |true=>slL cs
 |false=>true
@[irreducible] def vif (p : Bool) (A B : Prop) : Prop := (p = true → A) ∧ (p = false → B)
@[irreducible] def vint (k : IntKind) (r : Int) (K : V → Prop) : Prop :=
 (k.wrap r=r∧K (.c (.int k r)))∨K (.c (.int k (k.wrap r)))
@[irreducible] def vneed (c : Prop) (K : Prop) : Prop := c ∧ K
@[irreducible] def vnil (n : Nat) (A B : Prop) : Prop := (n = 0 → A) ∧ B
@[irreducible] def vch (A B : Prop) : Prop := A ∨ B
@[irreducible] def vor (c A B : Prop) : Prop := (c ∧ A) ∨ (¬ c ∧ B)
def zo2:IntKind→IntKind→Bool
 |.i8,.i8|.i16,.i16|.i32,.i32|.i64,.i64|.u8,.u8|.u16,.u16|.u32,.u32|.u64,.u64=>true
 |_,_=>false
def V.bool?:V→Option Bool
 |.tt=>some true
 |.ff=>some false
 |.c (.bool b)=>some b
 |_=>none
def zkn (op:BinOp) (k:IntKind) (x y:Int):Int :=
 let a:=BitVec.ofInt k.bits x
 let b:=BitVec.ofInt k.bits y
 match op with
 |.and=>k.wrap (a &&& b).toNat
 |.or=>k.wrap (a ||| b).toNat
 |.xor=>k.wrap (a ^^^ b).toNat
 |_=>k.wrap (a &&& ~~~b).toNat
def zhu (op:BinOp) (x y:V) (K:V→Prop):Prop :=
 match x,y with
 |.c (.int k a),.c (.int k' b) =>
  match zo2 k k' with
  |false=>False
  |true =>
   match op with
   |.add=>vint k (a+b) K
   |.sub=>vint k (a-b) K
   |.mul=>vint k (a*b) K
   |.quo=>vneed (b≠0) (vint k (a.tdiv b) K)
   |.rem=>vneed (b≠0) (K (.c (.int k (a.tmod b))))
   |.and=>K (.c (.int k (zkn .and k a b)))
   |.or=>K (.c (.int k (zkn .or k a b)))
   |.xor=>K (.c (.int k (zkn .xor k a b)))
   |.eql=>K (.c (.bool (a==b)))
   |.neq=>K (.c (.bool (a != b)))
   |.lss=>K (.c (.bool (decide (a<b))))
   |.leq=>K (.c (.bool (decide (a≤b))))
   |.gtr=>K (.c (.bool (decide (a>b))))
   |.geq=>K (.c (.bool (decide (a≥b))))
   |.shr=>vneed (b=1) (K (.c (.int k (a.fdiv 2))))
   |_=>False
 |.agg [.c (.int .i64 a),.c (.int .i64 b)],.agg [.c (.int .i64 c),.c (.int .i64 d)] =>
  match op with
  |.eql=>K (.c (.bool (a==c&&b==d)))
  |.neq=>K (.c (.bool (!(a==c&&b==d))))
  |_=>False
 |x,y =>
  match x.bool?,y.bool? with
  |some a,some b =>
   match op with
   |.eql=>K (.c (.bool (a==b)))
   |.neq=>K (.c (.bool (a != b)))
   |_=>False
  |_,_=>False
def TI.isAgg:TI→Bool
 |.struct ..=>true
 |.arr ..=>true
 |.boxb ..=>true
 |_=>false
def TI.size:TI→Nat
 |.struct _ zs=>zs.length
 |.arr n _ _=>n
 |.boxb _ pre n post=>pre.length+n+post.length
 |_=>1
def TI.field (ti:TI) (f:Nat):Option (Nat×Nat×Bool) :=
 match ti with
 |.struct fs _=>fs[f]?
 |.boxb fs _ _ _=>fs[f]?
 |_=>none
def zc0:List C→List V
 |[]=>[]
 |x::t=>.c x::zc0 t
def ze6 (ti:TI) (row:List C) (K:V→Prop):Prop :=
 match ti.isAgg with
 |true=>match Nat.ble ti.size row.length with
  |true=>K (.agg (zc0 (row.take ti.size)))
  |false=>False
 |false=>match row with
  |x::_=>K (.c x)
  |[]=>False
def zfi (ti:TI) (row:List V) (K:V→Prop):Prop :=
 match ti.isAgg with
 |true=>match Nat.ble ti.size row.length with
  |true=>K (.agg (row.take ti.size))
  |false=>False
 |false=>match row with
  |x::_=>x.force K
  |[]=>False
def zmi:List V→Nat→Option V
 |[],_=>none
 |v::_,0=>some v
 |_::t,n+1=>zmi t n
def zoo:List C→List V
 |[]=>[]
 |c::t=>match c with
  |.int k n=>.c (.int k n)::zoo t
  |.bool b=>.c (.bool b)::zoo t
  |_=>.any::zoo t
def zfp (i:Nat):List (Nat×List V)→List (Nat×List V)→(List (Nat×List V)→Nat→List V→List (Nat×List V)→Prop)→Prop→Prop
 |_,[],_,B=>B
 |pre,(hi,vs)::t,A,B=>vor (i=hi) (A pre hi vs t) (zfp i (pre++[(hi,vs)]) t A B)
def TI.ok:TI→Bool
 |.bad=>false
 |_=>true
def zdw (T:TT) (lk:Nat→Option O) (t:Nat) (a:V) (K:V→Prop):Prop :=
 match (T t).ok with
 |false=>False
 |true =>
 match a with
 |.iptr row=>ze6 (T t) row K
 |.ptr id i st j =>
  match lk id with
  |some (.arr x)=>vneed (i<x.len∧st=x.stride) (ze6 (T t) ((x.row i).drop j) K)
  |some (.hol x hi vs)=>vneed (i<x.len∧st=x.stride) (vor (i=hi) (zfi (T t) (vs.drop j) K) (ze6 (T t) ((x.row i).drop j) K))
  |some (.deep _ f x hs)=>vneed (i<x.len∧st=x.stride) (zfp i [] hs (fun _ _ vs _=>zfi (T t) (vs.drop j) K) (vneed (f≤i) (zfi (T t) ((zoo (x.row i)).drop j) K)))
  |some (.box pre bs post) =>
   match Nat.beq st 0 with
   |true =>
    match (T t).isAgg with
    |true=>match bs with
     |[]=>match Nat.ble (j+(T t).size) (pre++post).length with
      |true=>K (.agg (((pre++post).drop j).take (T t).size))
      |false=>False
     |_=>match Nat.ble (j+(T t).size) pre.length with
      |true=>K (.agg ((pre.drop j).take (T t).size))
      |false=>False
    |false=>match zmi pre j with
     |some v=>v.force K
     |none=>match zmi post (j-pre.length-bs.length)with
      |some v=>match Nat.ble (pre.length+bs.length) j with|true=>v.force K|false=>False
      |none=>False
   |false=>match (T t).isAgg with
    |true=>False
    |false=>vneed (st=1∧j=pre.length∧i<bs.length) (K (.c (.bool (bs.getD i false))))
  |none=>False
 |_=>False
def V.asInt (k:IntKind):V→Option Int
 |.c (.int k' n)=>match zo2 k k' with|true=>some n|false=>none
 |_=>none
def V.asNums:V→Option (List Int)
 |.c (.nums .i64 xs)=>some xs
 |.nil=>some []
 |_=>none
def V.asPrs:V→Option (List Pr)
 |.c (.prs xs)=>some xs
 |.nil=>some []
 |_=>none
def mk2 (v:V):Option Pr :=
 match v with
 |.agg [a,b]=>match a.asInt .i64,b.asInt .i64 with|some x,some y=>some ⟨x,y⟩|_,_=>none
 |_=>none
def zty (v:V):Option Pg :=
 match v with
 |.agg [a,b,c]=>match a.asNums,b.asNums,c.asNums with|some x,some y,some z=>some ⟨x,y,z⟩|_,_,_=>none
 |_=>none
def zs2 (v:V):Option Lk :=
 match v with
 |.agg [a,b,c]=>match a.asNums,b.asInt .i64,c.asInt .i64 with|some x,some y,some z=>some ⟨x,y,z⟩|_,_,_=>none
 |_=>none
def mkOp (v:V):Option Opn :=
 match v with
 |.agg [a,b,c]=>match a.asInt .i64,b.asInt .i64,c.asInt .i64 with|some x,some y,some z=>some ⟨x,y,z⟩|_,_,_=>none
 |_=>none
def C.snoc (x:C) (v:V):Option C :=
 match x with
 |.nums k xs=>(v.asInt k).map fun n=>.nums k (xs++[n])
 |.bools xs=>v.bool?.map fun b=>.bools (xs++[b])
 |.prs xs=>(mk2 v).map fun p=>.prs (xs++[p])
 |.pgs xs=>(zty v).map fun p=>.pgs (xs++[p])
 |.lks xs=>(zs2 v).map fun p=>.lks (xs++[p])
 |.ops xs=>(mkOp v).map fun p=>.ops (xs++[p])
 |.numss xs=>v.asNums.map fun p=>.numss (xs++[p])
 |.prss xs=>v.asPrs.map fun p=>.prss (xs++[p])
 |_=>none
def C.app (x y:C):Option C :=
 match x,y with
 |.nums k xs,.nums k' ys=>match zo2 k k' with|true=>some (.nums k (xs++ys))|false=>none
 |.bools xs,.bools ys=>some (.bools (xs++ys))
 |.prs xs,.prs ys=>some (.prs (xs++ys))
 |.pgs xs,.pgs ys=>some (.pgs (xs++ys))
 |.lks xs,.lks ys=>some (.lks (xs++ys))
 |.ops xs,.ops ys=>some (.ops (xs++ys))
 |.numss xs,.numss ys=>some (.numss (xs++ys))
 |.prss xs,.prss ys=>some (.prss (xs++ys))
 |_,_=>none
def C.setRow (x:C) (i:Nat) (v:V):Option C :=
 match x with
 |.nums k xs=>(v.asInt k).map fun n=>.nums k (xs.set i n)
 |.bools xs=>v.bool?.map fun b=>.bools (xs.set i b)
 |.prs xs=>(mk2 v).map fun p=>.prs (xs.set i p)
 |.pgs xs=>(zty v).map fun p=>.pgs (xs.set i p)
 |.lks xs=>(zs2 v).map fun p=>.lks (xs.set i p)
 |.ops xs=>(mkOp v).map fun p=>.ops (xs.set i p)
 |.numss xs=>v.asNums.map fun p=>.numss (xs.set i p)
 |.prss xs=>v.asPrs.map fun p=>.prss (xs.set i p)
 |_=>none
def C.setCell (x:C) (i j:Nat) (v:V):Option C :=
 match x with
 |.prs xs=>match j with
  |0=>(v.asInt .i64).map fun n=>.prs (xs.set i {xs.getD i ⟨0,0⟩with key:=n})
  |1=>(v.asInt .i64).map fun n=>.prs (xs.set i {xs.getD i ⟨0,0⟩with value:=n})
  |_=>none
 |.pgs xs=>match j with
  |0=>v.asNums.map fun n=>.pgs (xs.set i {xs.getD i ⟨[],[],[]⟩with keys:=n})
  |1=>v.asNums.map fun n=>.pgs (xs.set i {xs.getD i ⟨[],[],[]⟩with kids:=n})
  |2=>v.asNums.map fun n=>.pgs (xs.set i {xs.getD i ⟨[],[],[]⟩with vals:=n})
  |_=>none
 |.lks xs=>match j with
  |0=>v.asNums.map fun n=>.lks (xs.set i {xs.getD i ⟨[],0,0⟩with keys:=n})
  |1=>(v.asInt .i64).map fun n=>.lks (xs.set i {xs.getD i ⟨[],0,0⟩with high:=n})
  |2=>(v.asInt .i64).map fun n=>.lks (xs.set i {xs.getD i ⟨[],0,0⟩with right:=n})
  |_=>none
 |.ops xs=>match j with
  |0=>(v.asInt .i64).map fun n=>.ops (xs.set i {xs.getD i ⟨0,0,0⟩with kind:=n})
  |1=>(v.asInt .i64).map fun n=>.ops (xs.set i {xs.getD i ⟨0,0,0⟩with key:=n})
  |2=>(v.asInt .i64).map fun n=>.ops (xs.set i {xs.getD i ⟨0,0,0⟩with value:=n})
  |_=>none
 |_=>none
def zm3:List V→Nat→V→List V
 |[],_,_=>[]
 |_::t,0,v=>v::t
 |x::t,n+1,v=>x::zm3 t n v
def V.cells:V→List V
 |.agg xs=>xs
 |v=>[v]
def zbj:List V→Nat→List V→List V
 |xs,_,[]=>xs
 |xs,j,v::vs=>zbj (zm3 xs j v) (j+1) vs
def S.alloc (s:S) (dst:Option Nat) (o:O) (v:V) (K:S→Prop):Prop :=
 match s with
 |⟨nt,nx,env,hp⟩=>zes [(nx,o)] fun h=>match h with
  |[x]=>S.put ⟨nt,nx+1,env,x::hp⟩ dst v K
  |_=>False
def S.allocPtr (s:S) (dst:Option Nat) (o:O) (a b c:Nat) (K:S→Prop):Prop :=
 match s with
 |⟨nt,nx,env,hp⟩=>S.alloc ⟨nt,nx,env,hp⟩ dst o (.ptr nx a b c) K
def S.allocSlc (s:S) (dst:Option Nat) (o:O) (K:S→Prop):Prop :=
 match s with
 |⟨nt,nx,env,hp⟩=>S.alloc ⟨nt,nx,env,hp⟩ dst o (.slc nx) K
def zg6 (T:TT) (t:Nat) (s:S) (dst:Option Nat) (K:S→Prop):Prop :=
 match T t with
 |.prim z=>s.allocPtr dst (.box [z] [] []) 0 0 0 K
 |.slice _ _ _ _=>s.allocPtr dst (.box [.nil] [] []) 0 0 0 K
 |.struct _ zs=>s.allocPtr dst (.box zs [] []) 0 0 0 K
 |.arr n _ kd=>s.allocPtr dst (.arr (kd.zeros n)) 0 (kd.empty).stride 0 K
 |.boxb _ pre n post=>s.allocPtr dst (.box pre (List.replicate n false) post) 0 0 0 K
 |.bad=>False
def zdc (T:TT) (t:Nat) (a:V) (f:Nat) (K:V→Prop):Prop :=
 match (T t).field f with
 |some (off,_,_)=>match a with
  |.iptr row=>K (.iptr (row.drop off))
  |.ptr id i st j=>K (.ptr id i st (j+off))
  |_=>False
 |none=>False
def zhi (T:TT) (t:Nat) (a:V) (f:Nat) (K:V→Prop):Prop :=
 match T t with
 |.struct fs zs=>match fs[f]? with
  |some (off,sz,ag)=>match a with
   |.agg xs=>match Nat.beq xs.length zs.length with
    |true=>match ag with
     |true=>match Nat.ble (off+sz) xs.length with
      |true=>K (.agg ((xs.drop off).take sz))
      |false=>False
     |false=>match zmi xs off with|some v=>v.force K|none=>False
    |false=>False
   |_=>False
  |none=>False
 |_=>False
def zb9 (T:TT) (lk:Nat→Option O) (t:Nat) (x ix:V) (K:V→Prop):Prop :=
 match ix with
 |.c (.int _ i) =>
  match T t with
  |.slice _ sz _ _=>match x with
   |.c l=>match Nat.beq l.stride sz with
    |true=>vneed (l.isSl=true∧0≤i∧i<l.len) (K (.iptr (l.row i.toNat)))
    |false=>False
   |.slc id=>match lk id with
    |some (.arr l)=>match Nat.beq l.stride sz with
     |true=>vneed (0≤i∧i<l.len) (K (.ptr id i.toNat sz 0))
     |false=>False
    |some (.hol l _ _)=>match Nat.beq l.stride sz with
     |true=>vneed (0≤i∧i<l.len) (K (.ptr id i.toNat sz 0))
     |false=>False
    |some (.deep _ _ l _)=>match Nat.beq l.stride sz with
     |true=>vneed (0≤i∧i<l.len) (K (.ptr id i.toNat sz 0))
     |false=>False
    |_=>False
   |_=>False
  |.arr n _ _=>match x with
   |.ptr id 0 _ j=>vneed (0≤i∧i<n) (K (.ptr id i.toNat 1 j))
   |_=>False
  |_=>False
 |_=>False
def C.drop (x:C) (n:Nat):C :=
 match x with
 |.nums k xs=>.nums k (xs.drop n)
 |.bools xs=>.bools (xs.drop n)
 |.prs xs=>.prs (xs.drop n)
 |.pgs xs=>.pgs (xs.drop n)
 |.lks xs=>.lks (xs.drop n)
 |.ops xs=>.ops (xs.drop n)
 |.numss xs=>.numss (xs.drop n)
 |.prss xs=>.prss (xs.drop n)
 |x=>x
def C.take (x:C) (n:Nat):C :=
 match x with
 |.nums k xs=>.nums k (xs.take n)
 |.bools xs=>.bools (xs.take n)
 |.prs xs=>.prs (xs.take n)
 |.pgs xs=>.pgs (xs.take n)
 |.lks xs=>.lks (xs.take n)
 |.ops xs=>.ops (xs.take n)
 |.numss xs=>.numss (xs.take n)
 |.prss xs=>.prss (xs.take n)
 |x=>x
def zdz (T:TT) (t:Nat) (x:V) (lo hi mx:Option V) (K:V→Prop):Prop :=
 match T t,mx,x with
 |.slice _ sz _ _,none,.c l =>
  match Nat.beq l.stride sz with
  |false=>False
  |true =>
   match lo,hi with
   |none,none=>vneed (l.isSl=true) (K (.c l))
   |some (.c (.int _ a)),none=>vneed (l.isSl=true∧0≤a∧a≤l.len) ((l.drop a.toNat).force fun l=>K (.c l))
   |none,some (.c (.int _ b))=>vneed (l.isSl=true∧0≤b∧b≤l.len) ((l.take b.toNat).force fun l=>K (.c l))
   |some (.c (.int _ a)),some (.c (.int _ b)) =>
    vneed (l.isSl=true∧0≤a∧a≤b∧b≤l.len) (((l.take b.toNat).drop a.toNat).force fun l=>K (.c l))
   |_,_=>False
 |_,_,_=>False
def ziq (lk:Nat→Option O) (x:V) (K:V→Prop):Prop :=
 match x with
 |.nil=>K (.c (.int .i64 0))
 |.c l=>match l.isSl with|true=>K (.c (.int .i64 l.len))|false=>False
 |.slc id=>match lk id with|some (.arr l)=>K (.c (.int .i64 l.len))|some (.hol l _ _)=>K (.c (.int .i64 l.len))|some (.deep _ _ l _)=>K (.c (.int .i64 l.len))|_=>False
 |_=>False
mutual
def V.forget (id:Nat):V→V
 |.ptr i a b c'=>match Nat.beq i id with|true=>.any|false=>.ptr i a b c'
 |.slc i=>match Nat.beq i id with|true=>.any|false=>.slc i
 |.agg xs=>.agg (z6 id xs)
 |.tup xs=>.tup (z6 id xs)
 |.fn f xs=>.fn f (z6 id xs)
 |v=>v
def z6 (id:Nat):List V→List V
 |[]=>[]
 |x::t=>V.forget id x::z6 id t
end
mutual
def V.frz (id:Nat) (x:C):V→V
 |.ptr i a b c'=>match Nat.beq i id with|true=>.any|false=>.ptr i a b c'
 |.slc i=>match Nat.beq i id with|true=>.c x|false=>.slc i
 |.agg xs=>.agg (zcl id x xs)
 |.tup xs=>.tup (zcl id x xs)
 |.fn f xs=>.fn f (zcl id x xs)
 |v=>v
def zcl (id:Nat) (x:C):List V→List V
 |[]=>[]
 |y::t=>V.frz id x y::zcl id x t
end
mutual
def V.ren (r:Nat→Nat):V→V
 |.ptr i a b c'=>.ptr (r i) a b c'
 |.slc i=>.slc (r i)
 |.agg xs=>.agg (zag r xs)
 |.tup xs=>.tup (zag r xs)
 |.fn f xs=>.fn f (zag r xs)
 |v=>v
def zag (r:Nat→Nat):List V→List V
 |[]=>[]
 |y::t=>V.ren r y::zag r t
end
mutual
def V.idsLt (n:Nat):V→Bool
 |.ptr i _ _ _=>Nat.blt i n
 |.slc i=>Nat.blt i n
 |.agg xs=>zz n xs
 |.tup xs=>zz n xs
 |.fn _ xs=>zz n xs
 |_=>true
def zz (n:Nat):List V→Bool
 |[]=>true
 |y::t=>match V.idsLt n y with|true=>zz n t|false=>false
end
def zb2 (f:V→V):List (Nat×V)→List (Nat×V)
 |[]=>[]
 |(k,v)::t=>(k,f v)::zb2 f t
def zbk (fl:List V→List V):List (Nat×List V)→List (Nat×List V)
 |[]=>[]
 |(i,vs)::t=>(i,fl vs)::zbk fl t
def O.map (fl:List V→List V):O→O
 |.box pre bs post=>.box (fl pre) bs (fl post)
 |.arr x=>.arr x
 |.hol x hi vs=>.hol x hi (fl vs)
 |.deep p f x hs=>.deep p f x (zbk fl hs)
def za7 (fl:List V→List V):List (Nat×O)→List (Nat×O)
 |[]=>[]
 |(k,o)::t=>(k,o.map fl)::za7 fl t
def S.forget (s:S) (id:Nat):S:={s with env:=zb2 (V.forget id) s.env,hp:=za7 (z6 id) s.hp}
def zds (kd:Kd) (lk:Nat→Option O) (v:V) (K:C→Option (Nat×List V)→Prop):Prop :=
 match v with
 |.nil=>K kd.empty none
 |.c y=>y.force fun y=>K y none
 |.slc id=>match lk id with
  |some (.arr y)=>y.force fun y=>K y none
  |some (.hol y hi vs)=>y.force fun y=>K y (some (hi,vs))
  |_=>False
 |_=>False
def holO (z:C) (n:Nat) (hy:Option (Nat×List V)):O :=
 match hy with
 |none=>.arr z
 |some (hi,vs)=>.hol z (n+hi) vs
def zjj (id:Nat) (hy:Option (Nat×List V)):Option (Nat×List V) :=
 match hy with
 |none=>none
 |some (hi,vs)=>some (hi,z6 id vs)
def V.slcs:V→List Nat
 |.slc i=>[i]
 |.agg xs=>go xs
 |_=>[]
where go:List V→List Nat
 |[]=>[]
 |.slc i::t=>i::go t
 |_::t=>go t
def zxf:List (Nat×V)→List Nat
 |[]=>[]
 |(_,v)::t=>v.slcs++zxf t
def vfz:List Nat→S→List V→(S→List V→Prop)→Prop
 |[],s,vs,K=>K s vs
 |id::t,s,vs,K=>match zq s.hp id with
  |some (.arr x)=>S.force {s with env:=zb2 (V.frz id x) s.env,hp:=za7 (zcl id x) (zbu s.hp id)} fun s=>zem (zcl id x vs) fun vs=>vfz t s vs K
  |some (.hol y hi us)=>match y.setRow hi (.agg us)with
   |some x=>S.force {s with env:=zb2 (V.frz id x) s.env,hp:=za7 (zcl id x) (zbu s.hp id)} fun s=>zem (zcl id x vs) fun vs=>vfz t s vs K
   |none=>False
  |some (.deep _ 0 x [])=>S.force {s with env:=zb2 (V.frz id x) s.env,hp:=za7 (zcl id x) (zbu s.hp id)} fun s=>zem (zcl id x vs) fun vs=>vfz t s vs K
  |_=>False
def V.one:V→Bool
 |.any=>false
 |.agg _=>false
 |.tup _=>false
 |_=>true
def zhr:List V→Bool
 |[]=>true
 |v::t=>match v.one with|true=>zhr t|false=>false
def zc8 (x:C) (ti:TI) (i j:Nat) (v:V) (K:C→Prop):Prop :=
 match Nat.beq x.stride ti.size with
 |true=>match Nat.beq j 0 with
  |true=>match x.setRow i v with|some x'=>K x'|none=>False
  |false=>False
 |false=>match ti.isAgg with
  |true=>False
  |false=>match x.setCell i j v with|some x'=>K x'|none=>False
def whOk (x:C) (sz j:Nat) (cs:List V):Bool :=
 zhr cs&&Nat.beq cs.length sz&&Nat.beq sz x.stride&&Nat.beq j 0&&zhg x cs
def C.flatB:C→Bool
 |.nums _ _=>true
 |.bools _=>true
 |.prs _=>true
 |.ops _=>true
 |_=>false
def C.isNums:C→Bool
 |.nums _ _=>true
 |_=>false
def zgc (p:Bool) (f:Nat) (x:C) (hs:List (Nat×List V)) (ti:TI) (i j:Nat) (v:V) (K:O→Prop):Prop :=
 zfp i [] hs (fun pre hi vs t=>match (match zhr v.cells with|true=>Nat.beq v.cells.length ti.size|false=>false)with
   |true=>match (match zhg x v.cells with|true=>Nat.ble (j+ti.size) vs.length|false=>false)with
    |true=>K (.deep p f x (pre++(hi,zbj vs j v.cells)::t))
    |false=>False
   |false=>False)
  (match x.isNums with
   |true=>zc8 x ti i j v fun x'=>K (.deep p f x' hs)
   |false=>match whOk x ti.size j v.cells with
    |true=>K (.deep p f x (hs++[(i,v.cells)]))
    |false=>False)
def zej (T:TT) (t:Nat) (s:S) (a v:V) (K:S→Prop):Prop :=
 match a with
 |.ptr id i st j =>
  match zq s.hp id with
  |some (.arr _)=>vfz v.slcs s [v] fun s vs=>match vs with
   |[v]=>match zq s.hp id with
    |some (.arr x)=>vneed (i<x.len∧st=x.stride) (zc8 x (T t) i j v fun x'=>s.withHp (zac s.hp id (.arr x')) K)
    |_=>False
   |_=>False
  |some (.hol x hi vs)=>vneed (i<x.len∧st=x.stride) (vor (i=hi)
    (match (match zhr v.cells with|true=>Nat.beq v.cells.length (T t).size|false=>false)with
     |true=>match (match zhg x v.cells with|true=>Nat.ble (j+(T t).size) vs.length|false=>false)with
      |true=>s.withHp (zac s.hp id (.hol x hi (zbj vs j v.cells))) K
      |false=>False
     |false=>False)
    (zc8 x (T t) i j v fun x'=>s.withHp (zac s.hp id (.hol x' hi vs)) K))
  |some (.deep p f x hs)=>vneed (i<x.len∧st=x.stride) (zgc p f x hs (T t) i j v fun ob=>s.withHp (zac s.hp id ob) K)
  |some (.box pre bs post) =>
   match Nat.beq st 0 with
   |true =>
    match (match zhr v.cells with|true=>Nat.beq v.cells.length (T t).size|false=>false)with
    |true=>match Nat.ble (j+(T t).size) pre.length with
     |true=>s.withHp (zac s.hp id (.box (zbj pre j v.cells) bs post)) K
     |false=>match Nat.ble (pre.length+bs.length) j with
      |true=>match Nat.ble (j+(T t).size) (pre.length+bs.length+post.length)with
       |true=>s.withHp (zac s.hp id (.box pre bs (zbj post (j-pre.length-bs.length) v.cells))) K
       |false=>False
      |false=>False
    |false=>False
   |false=>match (T t).isAgg with
    |true=>False
    |false=>match v.bool? with
     |some b=>vneed (st=1∧j=pre.length∧i<bs.length) (s.withHp (zac s.hp id (.box pre (bs.set i b) post)) K)
     |none=>False
  |none=>False
 |_=>False
def Kd.nest:Kd→Bool
 |.pgs=>true
 |.lks=>true
 |.numss=>true
 |_=>false
def zp7 (x:C) (sz:Nat) (cs:List V):Bool :=
 match Nat.beq x.stride sz,Nat.beq cs.length sz,zhg x cs with
 |true,true,true=>zhr cs
 |_,_,_=>false
def zhf (kd:Kd) (z:C) (sz:Nat):Bool :=
 match Nat.beq z.stride sz,kd.empty.isPg,z.isPg with
 |true,true,true=>true
 |true,false,false=>true
 |_,_,_=>false
def zel (T:TT) (t:Nat) (s:S) (dst:Option Nat) (base src:V) (K:S→Prop):Prop :=
 match T t with
 |.slice _ sz _ kd =>
  zds kd (zq s.hp) src fun y hy =>
   match base with
   |.nil=>match C.app kd.empty y with
    |some z=>match zhf kd z sz with
     |true=>vneed (z.len≤4294967296) (z.force fun z=>s.allocSlc dst (holO z 0 hy) K)
     |false=>False
    |none=>False
   |.slc id=>match zq s.hp id with
    |some (.arr x)=>match C.app x y with
     |some z=>match zhf kd z sz with
      |true=>vneed (z.len≤4294967296) (z.force fun z =>
        S.force {s.forget id with hp:=zac (s.forget id).hp id (holO z x.len (zjj id hy))} fun s=>S.put s dst (.slc id) K)
      |false=>False
     |none=>False
    |some (.hol x hi vs)=>match C.app x y,hy with
     |some z,none=>match zhf kd z sz with
      |true=>vneed (z.len≤4294967296) (z.force fun z =>
        S.force {s.forget id with hp:=zac (s.forget id).hp id (.hol z hi (z6 id vs))} fun s=>S.put s dst (.slc id) K)
      |false=>False
     |_,_=>False
    |some (.deep false f x hs)=>match C.app x y,hy,Nat.beq y.len 1 with
     |some z,some (0,vs),true=>match zhf kd z sz with
      |true=>vneed (z.len≤4294967296) (z.force fun z =>
        S.force {s.forget id with hp:=zac (s.forget id).hp id (.deep false f z (zbk (z6 id) hs++[(x.len,z6 id vs)]))} fun s=>S.put s dst (.slc id) K)
      |false=>False
     |_,_,_=>False
    |_=>False
   |_=>False
 |_=>False
def zhc:List (Nat×V)→Nat→C→Option C
 |[],_,x=>some x
 |(i,v)::t,k,x=>match Nat.beq i k with
  |true=>match x.snoc v with|some y=>zhc t (k+1) y|none=>none
  |false=>none
def zqj:List (Nat×V)→List V→List (Nat×V)
 |(i,_)::t,v::vs=>(i,v)::zqj t vs
 |_,_=>[]
def zod:List (Nat×V)→List V
 |[]=>[]
 |(_,v)::t=>v::zod t
def ziw (kd:Kd) (sz:Nat) (parts:List (Nat×V)) (s:S) (dst:Option Nat) (K:S→Prop):Prop :=
 vfz (zxf parts) s (zod parts) fun s vs =>
  match zhc (zqj parts vs) 0 kd.empty with
  |some x=>match Nat.beq x.stride sz with
   |true=>x.force fun x=>s.allocSlc dst (.arr x) K
   |false=>False
  |none=>False
def zgi (T:TT) (t len:Nat) (parts:List (Nat×V)) (s:S) (dst:Option Nat) (K:S→Prop):Prop :=
 match T t with
 |.slice _ sz _ kd=>match Nat.beq parts.length len with
  |true=>match Nat.ble (len*sz) 1000000 with
   |true =>
    match kd.nest with
    |false=>ziw kd sz parts s dst K
    |true=>match parts with
     |[]=>vch (ziw kd sz [] s dst K) (match Nat.beq kd.empty.stride sz with
      |true=>s.allocSlc dst (.deep false 0 kd.empty []) K
      |false=>False)
     |[(0,.agg cs)]=>match zp7 kd.empty sz cs with
      |true=>vch (ziw kd sz [(0,.agg cs)] s dst K) (zem cs fun cs=>s.allocSlc dst (.hol (kd.zeros 1) 0 cs) K)
      |false=>ziw kd sz [(0,.agg cs)] s dst K
     |ps=>ziw kd sz ps s dst K
   |false=>False
  |false=>False
 |_=>False
def zl0 (fs:List (Nat×Nat×Bool)) (cells:List V):List (Nat×V)→Option (List V)
 |[]=>some cells
 |(i,v)::t=>match fs[i]? with
  |some (off,sz,_)=>match Nat.beq v.cells.length sz with
   |true=>match Nat.ble (off+sz) cells.length with
    |true=>zl0 fs (zbj cells off v.cells) t
    |false=>none
   |false=>none
  |none=>none
def zgf (T:TT) (t:Nat) (parts:List (Nat×V)) (K:V→Prop):Prop :=
 match T t with
 |.struct fs zs=>match zl0 fs zs parts with|some cs=>K (.agg cs)|none=>False
 |_=>False
def znp (T:TT) (t:Nat) (l c:V) (s:S) (dst:Option Nat) (K:S→Prop):Prop :=
 match T t with
 |.slice _ sz _ kd=>match l,c with
  |.c (.int .i64 a),.c (.int .i64 b) =>
   match Nat.beq kd.empty.stride sz with
   |true=>vneed (0≤a∧a=b∧a≤4294967296) (match kd.nest with
    |false=>s.allocSlc dst (.arr (kd.zeros a.toNat)) K
    |true=>vch (s.allocSlc dst (.arr (kd.zeros a.toNat)) K) (s.allocSlc dst (.deep false 0 (kd.zeros a.toNat) []) K))
   |false=>False
  |_,_=>False
 |_=>False
def zj3 (T:TT) (dst:Nat) (x:V) (K:V→Prop):Prop :=
 match T dst,x with
 |.prim (.c (.int k _)),.c (.int _ n)=>vint k n K
 |_,_=>False
def vun (op:UnOp) (x:V) (K:V→Prop):Prop :=
 match op with
 |.not=>match x with
  |.tt=>K .ff
  |.ff=>K .tt
  |.c (.bool b)=>K (.c (.bool (!b)))
  |_=>False
 |.neg=>match x with
  |.c (.int k n)=>vint k (0-n) K
  |_=>False
 |_=>False
def vmm (isMax:Bool) (xs:List V) (K:V→Prop):Prop :=
 match xs with
 |[.c (.int k a),.c (.int k' b)]=>match zo2 k k' with
  |true=>match isMax with
   |true=>K (.c (.int k (if b>a then b else a)))
   |false=>K (.c (.int k (if b<a then b else a)))
  |false=>False
 |_=>False
def V.flat:V→Bool
 |.tt=>true
 |.ff=>true
 |.any=>true
 |.c (.int _ _)=>true
 |.c (.bool _)=>true
 |_=>false
def zsd:List V→Bool
 |[]=>true
 |x::t=>match V.flat x with|true=>zsd t|false=>false
def V.scalar:V→Bool
 |.tup xs=>zsd xs
 |v=>v.flat
mutual
def V.lend (lk:Nat→Option O):V→V
 |.slc id=>match lk id with|some (.arr y)=>.c y|some (.deep _ 0 y [])=>.c y|_=>.slc id
 |.agg xs=>.agg (zbv lk xs)
 |v=>v
def zbv (lk:Nat→Option O):List V→List V
 |[]=>[]
 |x::t=>V.lend lk x::zbv lk t
end
mutual
def V.lentPg (lk:Nat→Option O):V→Bool
 |.slc id=>match lk id with|some (.arr y)=>y.isPg|some (.deep _ _ _ _)=>false|_=>true
 |.agg xs=>zfe lk xs
 |_=>true
def zfe (lk:Nat→Option O):List V→Bool
 |[]=>true
 |x::t=>match V.lentPg lk x with|true=>zfe lk t|false=>false
end
def zi2 (z:C) (lk:Nat→Option O) (args:List V):Bool :=
 match z.flatB with
 |true=>true
 |false=>match z.isPg with
  |true=>zfe lk args
  |false=>false
mutual
def V.flat1:V→Bool
 |.any=>true
 |.tt=>true
 |.ff=>true
 |.nil=>true
 |.c (.int _ _)=>true
 |.c (.bool _)=>true
 |.slc _=>true
 |.ptr _ _ _ _=>true
 |.agg xs=>zk3 xs
 |.tup xs=>zk3 xs
 |_=>false
def zk3:List V→Bool
 |[]=>true
 |x::t=>match V.flat1 x with|true=>zk3 t|false=>false
end
def rnf:List Nat→Nat→Nat
 |[],i=>i
 |a::_,0=>a
 |_::t,i+1=>rnf t i
def zcq:List Nat→Nat
 |[]=>0
 |a::t=>Nat.max (a+1) (zcq t)
def zeh (hout:List (Nat×O)) (i:Nat) (o:O):Bool :=
 match o.isBox with
 |true=>match zq hout i with|some o'=>o'.isBox|none=>false
 |false=>false
def zax (r:Nat→Nat) (hout:List (Nat×O)):List (Nat×O)→S→S
 |[],s=>s
 |(i,o)::t,s=>match zeh hout i o with
  |true=>zax r hout t s
  |false=>zax r hout t (s.forget (r i))
def zdm (r:Nat→Nat):List (Nat×O)→List (Nat×O)→List (Nat×O)
 |[],hp=>hp
 |(i,_)::t,hp=>zdm r t (zbu hp (r i))
def zbm (r:Nat→Nat):List (Nat×O)→List (Nat×O)
 |[]=>[]
 |(i,o)::t=>(r i,o.map (zag r))::zbm r t
def zht (n:Nat):List (Nat×List V)→Bool
 |[]=>true
 |(_,vs)::t=>match zz n vs with|true=>zht n t|false=>false
def zba (n:Nat):List (Nat×O)→Bool
 |[]=>true
 |(i,o)::t=>match Nat.blt i n with
  |true=>(match o with
   |.arr _=>zba n t
   |.hol _ _ vs=>match zz n vs with|true=>zba n t|false=>false
   |.deep _ _ _ hs=>match zht n hs with|true=>zba n t|false=>false
   |.box pre _ post=>match zz n pre,zz n post with|true,true=>zba n t|_,_=>false)
  |false=>false
def zc7 (a:Nat):List Nat→Bool
 |[]=>false
 |b::t=>match Nat.beq a b with|true=>true|false=>zc7 a t
def zav:List Nat→Bool
 |[]=>true
 |a::t=>match zc7 a t with|true=>false|false=>zav t
def zbl:List (Nat×O)→List Nat
 |[]=>[]
 |(i,_)::t=>i::zbl t
def zhj (r:Nat→Nat) (hp:List (Nat×O)):List (Nat×O)→Prop
 |[]=>True
 |(i,o)::t=>zq hp (r i)=some (o.map (zag r))∧zhj r hp t
def zd5 (r:Nat→Nat) (nx:Nat) (ks:List Nat):Nat→Bool
 |0=>true
 |m+1=>match (match zc7 m ks with|true=>true|false=>Nat.ble nx (r m))with
  |true=>zd5 r nx ks m
  |false=>false
def za3 (hin:List (Nat×O)):List (Nat×O)→Bool
 |[]=>true
 |(i,o)::t=>match o.isBox with
  |false=>za3 hin t
  |true=>match zq hin i with
   |some ob=>match ob.isBox with|true=>za3 hin t|false=>false
   |none=>za3 hin t
def zfn (lk:Nat→Option O) (args:List V):List (Nat×O)→Bool
 |[]=>true
 |(_,o)::t=>match o with
  |.arr z=>match zi2 z lk args with|true=>zfn lk args t|false=>false
  |.deep _ _ _ []=>zfn lk args t
  |_=>false
def ydj (W w:World):Prop:=w.os=W.os∧w.tape=W.tape∧w.output=W.output∧W.heap.size≤w.heap.size∧∀b,b<W.heap.size→w.heap[b]? = W.heap[b]?
def z7c (P:Program) (f:Nat) (args:List V) (res:V):Prop :=
 zhw P f∧∀(W:World) (I:Nat→Prop) (g:Gam) (n:Nat) (argv:List Value),(∀b,I b→b<W.heap.size)→args.length=argv.length →
  (∀(i:Nat) x v,args[i]? = some x→argv[i]? = some v→RV I g n W x v)→Calls P f argv.toArray W fun e w'=>∃v,e=.returned v∧ydj W w'∧RV I g n w' res v
@[irreducible] def vcall (P : Program) (f : Nat) (args : List V) (s : S) (dst : Option Nat) (K : S → Prop) : Prop :=
 (∃res:V,res.scalar=true∧zz 0 (zbv (zq s.hp) args)=true∧zr P f 0 (zbv (zq s.hp) args) [] 0 res []∧S.put s dst res K) ∨
 (∃(m:Nat) (st:V) (hout:List (Nat×O)),zfn (zq s.hp) args hout=true∧st.flat1=true∧zz 0 (zbv (zq s.hp) args)=true∧zr P f 0 (zbv (zq s.hp) args) [] m st hout ∧
  S.force {s with nx:=s.nx+m,hp:=zbm (fun i=>s.nx+i) hout++s.hp} fun s'=>S.put s' dst (st.ren fun i=>s.nx+i) K) ∨
 (∃(fz rn:List Nat) (n:Nat) (fargs:List V) (hin:List (Nat×O)) (m:Nat) (res:V) (hout:List (Nat×O)),
  zr P f n fargs hin m res hout ∧
  vfz fz s args fun s args =>
   zag (rnf rn) fargs=args∧zz n fargs=true∧zba n hin=true∧zhj (rnf rn) s.hp hin ∧
   (zav rn=true∧Nat.ble n rn.length=true∧Nat.ble m rn.length=true∧zd5 (rnf rn) s.nx (zbl hin) m=true∧za3 hin hout=true∧zav (zbl hin)=true) ∧
   S.force {zax (rnf rn) hout hin s with
    nx:=Nat.max s.nx (zcq rn)
    hp:=zbm (rnf rn) hout++zdm (rnf rn) hin (zax (rnf rn) hout hin s).hp} fun s=>S.put s dst (res.ren (rnf rn)) K) ∨
 (∃res:V,z7c P f args res∧S.put s dst res K) ∨
 ∃(fz rn:List Nat) (n:Nat) (fargs:List V) (hin:List (Nat×O)) (R:Nat→V→List (Nat×O)→Prop),
  zce P f n fargs hin R ∧
  vfz fz s args fun s args =>
   zag (rnf rn) fargs=args∧zz n fargs=true∧zba n hin=true∧zhj (rnf rn) s.hp hin ∧
   (zav rn=true∧Nat.ble n rn.length=true∧zav (zbl hin)=true) ∧
   ∀m res hout,R m res hout →
    (Nat.ble m rn.length=true∧zd5 (rnf rn) s.nx (zbl hin) m=true∧za3 hin hout=true) ∧
    S.force {zax (rnf rn) hout hin s with
     nx:=Nat.max s.nx (zcq rn)
     hp:=zbm (rnf rn) hout++zdm (rnf rn) hin (zax (rnf rn) hout hin s).hp} fun s=>S.put s dst (res.ren (rnf rn)) K
def evs (env:List (Nat×V)):List Operand→List V
 |[]=>[]
 |x::t=>evl env x::evs env t
def evp (env:List (Nat×V)):List (Nat×Operand)→List (Nat×V)
 |[]=>[]
 |(i,x)::t=>(i,evl env x)::evp env t
def zle (T:TT) (b:Builtin) (ts:List Nat) (args:List V) (s:S) (dst:Option Nat) (K:S→Prop):Prop :=
 match b,args with
 |.len,[x]=>match ts with
  |t::_=>match T t with
   |.slice _ _ _ _=>ziq (zq s.hp) x fun v=>s.put dst v K
   |_=>False
  |_=>False
 |.append,[x,y]=>match ts with
  |[t,t']=>match T t' with
   |.slice _ _ _ _=>zel T t s dst x y K
   |_=>False
  |_=>False
 |.min,[x,y]=>vmm false [x,y] fun v=>s.put dst v K
 |.max,[x,y]=>vmm true [x,y] fun v=>s.put dst v K
 |_,_=>False
def z1o:TI→Bool
 |.struct _ [.c (.int .i64 _),.c (.int .i64 _)]=>true
 |_=>false
def zo4:TI→Bool
 |.prim .ff=>true
 |_=>false
def intT:TI→Bool
 |.prim (.c (.int _ _))=>true
 |_=>false
def zkv (T:TT) (t:Nat) (x:V):Bool :=
 match x with
 |.agg _=>z1o (T t)
 |.c (.int _ _)=>true
 |_=>zo4 (T t)
def V.oneAgg:V→Bool
 |.agg _=>true
 |v=>v.one
def zku:List (Nat×V)→Bool
 |[]=>true
 |(_,v)::t=>match v.oneAgg with|true=>zku t|false=>false
def zmm (op:BinOp) (x y:V):Option C :=
 match op with
 |.eql=>match y with
  |.nil=>match x with
   |.c l=>match l.isSl with|true=>some l|false=>none
   |_=>none
  |_=>none
 |_=>none
def TI.isSlc:TI→Bool
 |.slice ..=>true
 |_=>false
def vop (T:TT) (P:Program) (o:Oper) (s:S) (K:S→Prop):Prop :=
 match o.op with
 |.move x=>s.put o.dst (evl s.env x) K
 |.assign x=>s.put o.dst (evl s.env x) K
 |.pick c a b=>match evl s.env c with
  |.tt=>s.put o.dst (evl s.env a) K
  |.ff=>s.put o.dst (evl s.env b) K
  |.c (.bool p)=>vif p (s.put o.dst (evl s.env a) K) (s.put o.dst (evl s.env b) K)
  |_=>False
 |.alloc t=>zg6 T t s o.dst K
 |.box _ x=>match (evl s.env x).oneAgg with
  |true=>s.allocPtr o.dst (.box (evl s.env x).cells [] []) 0 0 0 K
  |false=>False
 |.build t parts=>match zku (evp s.env parts.toList)with
  |true=>zgf T t (evp s.env parts.toList) fun v=>s.put o.dst v K
  |false=>False
 |.buildSlice t len parts=>zgi T t len (evp s.env parts.toList) s o.dst K
 |.load t a=>zdw T (zq s.hp) t (evl s.env a) fun v=>s.put o.dst v K
 |.store t a v=>match (T t).ok with
  |true=>zej T t s (evl s.env a) (evl s.env v) fun s=>s.put o.dst (.tup []) K
  |false=>False
 |.nilCheck x=>match evl s.env x with
  |.iptr row=>s.put o.dst (.iptr row) K
  |.ptr i a b c=>s.put o.dst (.ptr i a b c) K
  |_=>False
 |.binOp op t x y _=>match zmm op (evl s.env x) (evl s.env y)with
  |some l=>match (T t).isSlc with
   |true=>vnil l.len (s.put o.dst .tt K) (s.put o.dst .ff K)
   |false=>False
  |none=>match zkv T t (evl s.env x)with
   |true=>zhu op (evl s.env x) (evl s.env y) fun v=>s.put o.dst v K
   |false=>False
 |.unOp op _ x=>vun op (evl s.env x) fun v=>s.put o.dst v K
 |.convert r d x=>match intT (T r)with
  |true=>zj3 T d (evl s.env x) fun v=>s.put o.dst v K
  |false=>False
 |.makeSlice t l c=>znp T t (evl s.env l) (evl s.env c) s o.dst K
 |.slice t x lo hi mx=>vfz (evl s.env x).slcs s [] fun s _=>zdz T t (evl s.env x) (lo.map (evl s.env)) (hi.map (evl s.env)) (mx.map (evl s.env)) fun v=>s.put o.dst v K
 |.fieldAddr t x f=>zdc T t (evl s.env x) f fun v=>s.put o.dst v K
 |.field t x f=>zhi T t (evl s.env x) f fun v=>s.put o.dst v K
 |.indexAddr t x ix=>zb9 T (zq s.hp) t (evl s.env x) (evl s.env ix) fun v=>s.put o.dst v K
 |.extract x i=>match evl s.env x with
  |.tup vs=>match zmi vs i with|some v=>s.put o.dst v K|none=>False
  |_=>False
 |.makeFunc fn first captured=>match fn,first.toList with
  |.func f,[]=>s.put o.dst (.fn f (evs s.env captured.toList)) K
  |_,_=>False
 |.call c=>match c.callee with
  |.builtin b=>zle T b c.argTypes.toList (evs s.env c.args.toList) s o.dst K
  |.value f=>match evl s.env f with
   |.fn g caps=>vcall P g (evs s.env c.args.toList++caps) s o.dst K
   |_=>False
  |.invoke _ _=>False
 |_=>False
def zig (ops:List Oper) (j:Nat):Option Nat :=
 match ops[j]? with
 |some o=>o.dst
 |none=>none
def zs6 (T:TT) (P:Program) (ops:List Oper) (o:Oper) (s:S) (K:S→Prop):Prop :=
 match o.guard with
 |none=>vop T P o s K
 |some (j,want)=>match zig ops j with
  |none=>False
  |some d=>match zaw s.env d with
   |.tt=>match want with|true=>vop T P o s K|false=>s.put o.dst (.tup []) K
   |.ff=>match want with|true=>s.put o.dst (.tup []) K|false=>vop T P o s K
   |.c (.bool p)=>vif p
    (S.put s (some d) .tt fun s=>match want with
     |true=>vop T P o s K
     |false=>S.put s o.dst (.tup []) K)
    (S.put s (some d) .ff fun s=>match want with
     |true=>S.put s o.dst (.tup []) K
     |false=>vop T P o s K)
   |.tup _=>s.put o.dst (.tup []) K
   |_=>False
def z1e (T:TT) (P:Program) (ops:List Oper) (o:Oper) (rest:S→(S→Prop)→Prop) (s:S) (K:S→Prop):Prop :=
 zs6 T P ops o s fun s=>rest s K
def vops (T:TT) (P:Program) (ops l:List Oper):S→(S→Prop)→Prop :=
 List.rec (motive:=fun _=>S→(S→Prop)→Prop) (fun s K=>K s) (fun o _ ih=>z1e T P ops o ih) l
def V.norm:V→V
 |.tt=>.c (.bool true)
 |.ff=>.c (.bool false)
 |v=>v
def zd3:List V→List V
 |[]=>[]
 |v::t=>v.norm::zd3 t
def V.nrm:V→V
 |.tup xs=>.tup (zd3 xs)
 |.agg xs=>.agg (zd3 xs)
 |v=>v.norm
def zmj (r:Nat→Nat) (env:List (Nat×V)):List (Nat×V)→Prop
 |[]=>True
 |(j,v)::t=>(zaw env j).nrm=(v.ren r).nrm∧zmj r env t
def O.nrm:O→O
 |.box pre bs post=>.box (zd3 pre) bs (zd3 post)
 |.arr x=>.arr x
 |.hol x hi vs=>.hol x hi (zd3 vs)
 |.deep p f x hs=>.deep p f x (zbk zd3 hs)
def zkc (r:Nat→Nat) (hp:List (Nat×O)):List (Nat×O)→Prop
 |[]=>True
 |(i,o)::t=>(zq hp (r i)).map O.nrm=some ((o.map (zag r)).nrm)∧zkc r hp t
def zhq (n:Nat):List (Nat×V)→Bool
 |[]=>true
 |(_,v)::t=>match v.idsLt n with|true=>zhq n t|false=>false
def ze8 (n0:Nat) (r:Nat→Nat):List (Nat×O)→Bool
 |[]=>true
 |(i,o)::t=>match o.isBox with
  |false=>ze8 n0 r t
  |true=>match Nat.ble n0 i with
   |true=>ze8 n0 r t
   |false=>match Nat.beq (r i) i with|true=>ze8 n0 r t|false=>false
def O.cnv:O→O
 |.hol x hi vs=>match x.setRow hi (.agg vs)with|some y=>.arr y|none=>.hol x hi vs
 |o=>o
def zg9:List (Nat×O)→List (Nat×O)
 |[]=>[]
 |(i,o)::t=>(i,o.cnv)::zg9 t
inductive Gh where
 |fz (ids:List Nat)
 |cnv
 |dp (id:Nat)
 |op (id i:Nat)
 |cl (id:Nat)
 |th (id:Nat)
 |ad (id:Nat)
 |pin (id:Nat)
 |un (id:Nat)
 |hd (id:Nat)
 |kp (l:List Nat)
 |nl (d:Nat) (dq:Bool) (z:C)
 |nb (id j:Nat) (dq:Bool) (z:C)
 |bx (id k n:Nat)
def zb5:Nat→List C→List V
 |_,[]=>[]
 |k,c::t=>match c with
  |.nums _ _=>.slc k::zb5 (k+1) t
  |.int k' n=>.c (.int k' n)::zb5 (k+1) t
  |.bool b=>.c (.bool b)::zb5 (k+1) t
  |_=>.any::zb5 (k+1) t
def zc6:Nat→List C→List (Nat×O)
 |_,[]=>[]
 |k,c::t=>match c with
  |.nums kk xs=>(k,.arr (.nums kk xs))::zc6 (k+1) t
  |_=>zc6 (k+1) t
def zbf (lk:Nat→Option O):List V→List V
 |[]=>[]
 |u::t=>match u with
  |.slc a=>(match lk a with
   |some (.arr (.nums .i64 xs))=>.c (.nums .i64 xs)
   |some (.deep _ 0 (.nums .i64 xs) [])=>.c (.nums .i64 xs)
   |_=>.any)::zbf lk t
  |u=>u::zbf lk t
def zad:List V→List Nat
 |[]=>[]
 |u::t=>match u with
  |.slc a=>a::zad t
  |_=>zad t
def zfw (lk:Nat→Option O):List V→Bool
 |[]=>true
 |u::t=>match u with
  |.slc a=>(match lk a with
   |some (.arr (.nums .i64 _))=>zfw lk t
   |some (.deep _ 0 (.nums .i64 _) [])=>zfw lk t
   |_=>false)
  |.nil=>zfw lk t
  |.c (.int _ _)=>zfw lk t
  |_=>false
def C.isNest:C→Bool
 |.pgs _=>true
 |.lks _=>true
 |.numss _=>true
 |_=>false
def C.setEl (x:C) (i:Nat) (us:List V):Option C :=
 match us with
 |[u]=>x.setRow i u
 |us=>x.setRow i (.agg us)
def zeq:List Nat→S→S
 |[],s=>s
 |a::t,s=>zeq t (s.forget a)
def zi5:List Nat→List (Nat×O)→List (Nat×O)
 |[],hp=>hp
 |a::t,hp=>zi5 t (zbu hp a)
def zpa (f:Nat):List (Nat×List V)→Prop
 |[]=>True
 |(i,_)::t=>i≤f∧zpa f t
def znr (i:Nat):List Nat→List Nat
 |[]=>[]
 |j::t=>match Nat.beq j i with|true=>znr i t|false=>j::znr i t
def keepE (l:List Nat):List (Nat×V)→List (Nat×V)
 |[]=>[]
 |(i,v)::t=>match zc7 i l with|true=>(i,v)::keepE (znr i l) t|false=>keepE l t
def z6d:List V→Option (List Bool)
 |[]=>some []
 |v::t=>match v.bool?,z6d t with|some b,some bs=>some (b::bs)|_,_=>none
def ydt (n0:Nat) (a:Gh) (s:S) (K:S→Prop):Prop :=
 match a with
 |.fz ids=>vfz ids s [] fun s _=>K s
 |.cnv=>s.withHp (zg9 s.hp) K
 |.dp id=>match zq s.hp id with
  |some (.arr x)=>match x.isNums with
   |true=>s.withHp (zac s.hp id (.deep false 0 x [])) K
   |false=>match Nat.beq x.len 0 with
    |true=>s.withHp (zac s.hp id (.deep false 0 x [])) K
    |false=>False
  |_=>False
 |.op id i=>match zq s.hp id with
  |some (.deep p f x hs)=>vneed (f≤i∧i<x.len) (zfp i [] hs (fun _ _ _ _=>False)
    (S.force {s with nx:=s.nx+x.stride,hp:=zc6 s.nx (x.row i)++zac s.hp id (.deep p f x (hs++[(i,zb5 s.nx (x.row i))]))} K))
  |_=>False
 |.cl id=>match zq s.hp id with
  |some (.deep p f x ((i,us)::t))=>match zfw (zq s.hp) us with
   |true=>match (match x.isNest with|true=>C.setEl x i (zbf (zq s.hp) us)|false=>none)with
    |some x'=>match zav (id::zad us)with
     |true=>zfp i [] t (fun _ _ _ _=>False) (S.force {zeq (zad us) {s with hp:=zac s.hp id (.deep p f x' t)} with hp:=zi5 (zad us) (zeq (zad us) {s with hp:=zac s.hp id (.deep p f x' t)}).hp} K)
     |false=>False
    |none=>False
   |false=>False
  |_=>False
 |.th id=>match zq s.hp id with
  |some (.deep false 0 x [])=>s.withHp (zac s.hp id (.arr x)) K
  |_=>False
 |.ad id=>match zq s.hp id with
  |some (.deep p f x hs)=>vneed (zpa f hs) (s.withHp (zac s.hp id (.deep p (f+1) x [])) K)
  |_=>False
 |.pin id=>match zq s.hp id with
  |some (.deep false f x hs)=>match Nat.ble n0 id with
   |true=>s.withHp (zac s.hp id (.deep true f x hs)) K
   |false=>False
  |_=>False
 |.un id=>match zq s.hp id with
  |some (.deep true f x hs)=>s.withHp (zac s.hp id (.deep false f x hs)) K
  |_=>False
 |.hd id=>match zq s.hp id with
  |some (.hol x hi vs)=>match Nat.beq x.len 1 with
   |true=>s.withHp (zac s.hp id (.deep false 0 x [(hi,vs)])) K
   |false=>False
  |_=>False
 |.kp l=>S.force {s with env:=keepE l s.env} K
 |.nl d dq z=>match zaw s.env d with
  |.nil=>match z.isSl,Nat.beq z.len 0 with
   |true,true=>match dq with
    |true=>K ⟨s.nt,s.nx+1,(d,.slc s.nx)::s.env,(s.nx,.deep false 0 z [])::s.hp⟩
    |false=>K ⟨s.nt,s.nx+1,(d,.slc s.nx)::s.env,(s.nx,.arr z)::s.hp⟩
   |_,_=>False
  |_=>False
 |.nb id j dq z=>match zq s.hp id with
  |some (.box pre bs post)=>match zmi pre j with
   |some .nil=>match z.isSl,Nat.beq z.len 0 with
    |true,true=>match dq with
     |true=>K ⟨s.nt,s.nx+1,s.env,(s.nx,.deep false 0 z [])::zac s.hp id (.box (zm3 pre j (.slc s.nx)) bs post)⟩
     |false=>K ⟨s.nt,s.nx+1,s.env,(s.nx,.arr z)::zac s.hp id (.box (zm3 pre j (.slc s.nx)) bs post)⟩
    |_,_=>False
   |_=>False
  |_=>False
 |.bx id k n=>match zq s.hp id with
  |some (.box pre [] post)=>match z6d ((pre.drop k).take n)with
   |some bs=>match Nat.ble (k+n) pre.length with
    |true=>s.withHp (zac s.hp id (.box (pre.take k) bs (pre.drop (k+n)++post))) K
    |false=>False
   |none=>False
  |_=>False
def vgh (n0:Nat):List Gh→S→(S→Prop)→Prop
 |[],s,K=>K s
 |a::t,s,K=>ydt n0 a s fun s=>vgh n0 t s K
@[irreducible] def Ent (n0 : Nat) (s s' : S) : Prop :=
 ∃(l:List Gh) (fz bk:List Nat),vgh n0 l s fun s=>vfz fz s [] fun s _ =>
  zmj (rnf bk) s.env s'.env∧zkc (rnf bk) (zg9 s.hp) s'.hp ∧
  (s.nt=s'.nt∧zav bk=true∧Nat.ble s'.nx bk.length=true∧zhq s'.nx s'.env=true∧zba s'.nx s'.hp=true∧zav (zbl s'.hp)=true∧ze8 n0 (rnf bk) s'.hp=true)
@[irreducible] def vloop (n0 : Nat) (body : (Exit → S → Prop) → S → Prop) (Q : Exit → S → Prop) (s : S) : Prop :=
 ∃(ι:Type) (st:ι→S) (μ:ι→Nat) (i0:ι),(∀i,n0≤(st i).nx)∧Ent n0 s (st i0) ∧
  ∀i,body (fun e s'=>match e with
   |.normal=>∃i',Ent n0 s' (st i')∧μ i'<μ i
   |e=>Q e s') (st i)
mutual
def V.ids:V→List Nat
 |.ptr i _ _ _=>[i]
 |.slc i=>[i]
 |.agg xs=>za9 xs
 |.tup xs=>za9 xs
 |.fn _ xs=>za9 xs
 |_=>[]
def za9:List V→List Nat
 |[]=>[]
 |x::t=>V.ids x++za9 t
end
def zia:List (Nat×List V)→List Nat
 |[]=>[]
 |(_,vs)::t=>za9 vs++zia t
def O.ids:O→List Nat
 |.box pre _ post=>za9 pre++za9 post
 |.arr _=>[]
 |.hol _ _ vs=>za9 vs
 |.deep _ _ _ hs=>zia hs
inductive Ef where
 |val (v:V)
 |set (v:V) (id:Nat) (ob:O)
 |new (st:V) (hst:st.idsLt 1=true) (ob:O)
 |app (id:Nat) (z:O)
 |fx (sets:List (Nat×O)) (news:List O) (rds:List Nat) (st:V) (hst:st.idsLt news.length=true)
 |mv (id:Nat) (z:C)
 |mf (id:Nat) (z:C)
 |tk (ids:List Nat) (v:V)
def fin (v:V) (K:Ef→Prop):Prop :=
 match v with
 |.c (.bool b)=>vif b (K (.val .tt)) (K (.val .ff))
 |v=>v.force fun v=>K (.val v)
def zc4 (T:TT) (t:Nat) (lk:Nat→Option O) (a v:V) (K:Nat→O→Prop):Prop :=
 match v.slcs with
 |_::_=>match a with
  |.ptr id i st j=>match lk id with
   |some (.box pre bs post) =>
    match Nat.beq st 0 with
    |true =>
     match (match zhr v.cells with|true=>Nat.beq v.cells.length (T t).size|false=>false)with
     |true=>match Nat.ble (j+(T t).size) pre.length with
      |true=>K id (.box (zbj pre j v.cells) bs post)
      |false=>False
     |false=>False
    |false=>False
   |some (.arr x)=>match whOk x (T t).size j v.cells with
    |true=>vneed (i<x.len∧st=x.stride) (K id (.hol x i v.cells))
    |false=>False
   |some (.deep p f x hs)=>vneed (i<x.len∧st=x.stride) (zgc p f x hs (T t) i j v (K id))
   |_=>False
  |_=>False
 |[] =>
  match a with
  |.ptr id i st j =>
   match lk id with
   |some (.arr x)=>vneed (i<x.len∧st=x.stride) (zc8 x (T t) i j v fun x'=>K id (.arr x'))
   |some (.hol x hi vs)=>vneed (i<x.len∧st=x.stride) (vor (i=hi)
     (match (match zhr v.cells with|true=>Nat.beq v.cells.length (T t).size|false=>false)with
      |true=>match (match zhg x v.cells with|true=>Nat.ble (j+(T t).size) vs.length|false=>false)with
       |true=>K id (.hol x hi (zbj vs j v.cells))
       |false=>False
      |false=>False)
     (zc8 x (T t) i j v fun x'=>K id (.hol x' hi vs)))
   |some (.deep p f x hs)=>vneed (i<x.len∧st=x.stride) (zgc p f x hs (T t) i j v (K id))
   |some (.box pre bs post) =>
    match Nat.beq st 0 with
    |true =>
     match (match zhr v.cells with|true=>Nat.beq v.cells.length (T t).size|false=>false)with
     |true=>match Nat.ble (j+(T t).size) pre.length with
      |true=>K id (.box (zbj pre j v.cells) bs post)
      |false=>False
     |false=>False
    |false=>False
   |none=>False
  |_=>False
def zak:Nat→List O→List (Nat×O)
 |_,[]=>[]
 |k,o::t=>(k,o)::zak (k+1) t
def zka:List O→Bool
 |[]=>true
 |o::t=>match o with
  |.arr _=>zka t
  |.deep _ _ _ []=>zka t
  |_=>false
def zl4:List O→Bool
 |[]=>true
 |o::t=>match o.isBox with|true=>zl4 t|false=>false
def zlo (r:Nat→Nat) (lk:Nat→Option O):List (Nat×O)→Prop
 |[]=>True
 |(i,o)::t=>lk (r i)=some (o.map (zag r))∧zlo r lk t
@[irreducible] def vcalld (P : Program) (f : Nat) (args : List V) (lk : Nat → Option O) (K : Ef → Prop) : Prop :=
 (∃res:V,zz 0 args=true∧zz 0 [res]=true∧zr P f 0 args [] 0 res []∧fin res K) ∨
 (∃res:V,res.scalar=true∧zz 0 (zbv lk args)=true∧zr P f 0 (zbv lk args) [] 0 res []∧fin res K) ∨
 (∃(z:C) (st:V) (hst:st.idsLt 1=true),zz 0 args=true∧zr P f 0 args [] 1 st [(0,.arr z)]∧K (.new st hst (.arr z))) ∨
 (∃(z:C) (st:V) (hst:st.idsLt 1=true),zi2 z lk args=true∧st.flat1=true∧zz 0 (zbv lk args)=true∧zr P f 0 (zbv lk args) [] 1 st [(0,.arr z)]∧K (.new st hst (.arr z))) ∨
 (∃(id:Nat) (fargs:List V) (pre post:List V) (bs:List Bool) (pre' post':List V) (bs':List Bool) (res:V),
  zr P f 1 fargs [(0,.box pre bs post)] 1 res [(0,.box pre' bs' post')]∧lk id=some (.box pre bs post) ∧
  zz 0 pre=true∧zz 0 post=true∧zz 0 pre'=true∧zz 0 post'=true∧zz 0 [res]=true∧zz 1 fargs=true ∧
  zag (fun _=>id) fargs=args∧zc7 id (za9 args)=true∧K (.set res id (.box pre' bs' post'))) ∨
 (∃(news:List O) (st:V) (hst:st.idsLt news.length=true),zfn lk args (zak 0 news)=true∧st.flat1=true∧zz 0 (zbv lk args)=true∧zr P f 0 (zbv lk args) [] news.length st (zak 0 news)∧K (.fx [] news [] st hst)) ∨
 (∃(rn:List Nat) (fargs:List V) (hin hos news:List O) (st:V) (hst:st.idsLt news.length=true),
  zr P f rn.length fargs (zak 0 hin) (rn.length+news.length) (st.ren fun j=>rn.length+j) (zak 0 hos++zak rn.length news) ∧
  (hin.length=rn.length∧hos.length=rn.length∧zav rn=true∧zl4 hin=true∧zl4 hos=true∧zka news=true∧zz rn.length fargs=true∧zba rn.length (zak 0 hin)=true∧zba rn.length (zak 0 hos)=true) ∧
  zag (rnf rn) fargs=args∧zlo (rnf rn) lk (zak 0 hin)∧(K (.fx (zbm (rnf rn) (zak 0 hos)) news rn st hst)∨∃(ob:O) (h2 o2:List O),hin=ob::h2∧hos=ob::o2∧K (.fx (zbm (rnf rn) (zak 1 o2)) news rn st hst))) ∨
 (∃res:V,z7c P f args res∧fin res K) ∨
 (∃z:C,zi2 z lk args=true∧zz 0 (zbv lk args)=true∧zr P f 0 (zbv lk args) [] 1 (.slc 0) [(0,.arr z)]∧K (.val (.c z))) ∨
 (∃(id1 id2:Nat) (fargs:List V) (x1 x2:C) (res:V),zr P f 2 fargs [(0,.arr x1),(1,.arr x2)] 0 res []∧lk id1=some (.arr x1)∧lk id2=some (.arr x2)∧Nat.beq id1 id2=false∧zz 2 fargs=true ∧
  zag (rnf [id1,id2]) fargs=args∧zc7 id1 (za9 args)=true∧zc7 id2 (za9 args)=true∧zz 0 [res]=true∧res.bool? = none∧K (.tk [id1,id2] res)) ∨
 ∃(id:Nat) (fargs:List V) (x z:C),zr P f 1 fargs [(0,.arr x)] 1 (.slc 0) [(0,.arr z)]∧lk id=some (.arr x)∧zz 1 fargs=true ∧
  zag (fun _=>id) fargs=args∧zc7 id (za9 args)=true∧(K (.mf id z)∨K (.mv id z))
def zh4 (T:TT) (t:Nat) (K:Ef→Prop):Prop :=
 match T t with
 |.prim z=>K (.new (.ptr 0 0 (0) 0) rfl (.box [z] [] []))
 |.slice _ _ _ _=>K (.new (.ptr 0 0 (0) 0) rfl (.box [.nil] [] []))
 |.struct _ zs=>K (.new (.ptr 0 0 (0) 0) rfl (.box zs [] []))
 |.arr n _ kd=>K (.new (.ptr 0 0 ((kd.empty).stride) 0) rfl (.arr (kd.zeros n)))
 |.boxb _ pre n post=>K (.new (.ptr 0 0 (0) 0) rfl (.box pre (List.replicate n false) post))
 |.bad=>False
def zgm (T:TT) (t:Nat) (lk:Nat→Option O) (base src:V) (K:Ef→Prop):Prop :=
 match T t with
 |.slice _ sz _ kd =>
  zds kd lk src fun y hy =>
   match base with
   |.nil=>match C.app kd.empty y with
    |some z=>match zhf kd z sz with
     |true=>vneed (z.len≤4294967296) (z.force fun z=>K (.new (.slc 0) rfl (holO z 0 hy)))
     |false=>False
    |none=>False
   |.slc id=>match lk id with
    |some (.arr x)=>match C.app x y with
     |some z=>match zhf kd z sz with
      |true=>vneed (z.len≤4294967296) (z.force fun z=>vch (K (.app id (holO z x.len (zjj id hy)))) (match hy,zc7 id src.ids with|none,false=>vch (K (.mf id z)) (K (.mv id z))|_,_=>False))
      |false=>False
     |none=>False
    |some (.hol x hi vs)=>match C.app x y,hy with
     |some z,none=>match zhf kd z sz with
      |true=>vneed (z.len≤4294967296) (z.force fun z=>K (.app id (.hol z hi (z6 id vs))))
      |false=>False
     |_,_=>False
    |some (.deep false f x hs)=>match C.app x y,hy,Nat.beq y.len 1 with
     |some z,some (0,vs),true=>match zhf kd z sz with
      |true=>vneed (z.len≤4294967296) (z.force fun z=>K (.app id (.deep false f z (zbk (z6 id) hs++[(x.len,z6 id vs)]))))
      |false=>False
     |_,_,_=>False
    |_=>False
   |_=>False
 |_=>False
def ych:Option Nat→Bool
 |some d=>Nat.beq d 15
 |none=>false
def zgn (T:TT) (own:Bool) (t len:Nat) (parts:List (Nat×V)) (K:C→Prop) (K2:O→Prop):Prop :=
 match T t with
 |.slice _ sz _ kd=>match Nat.beq parts.length len with
  |true=>match Nat.ble (len*sz) 1000000 with
   |true=>match zxf parts with
    |[]=>match zhc parts 0 kd.empty with
     |some x=>match Nat.beq x.stride sz with
      |true=>x.force fun x=>match parts with
       |[]=>vch (K x) (K2 (.arr x))
       |_::_=>match kd.nest with
        |true=>vch (K x) (K2 (.arr x))
        |false=>match own with
         |true=>K2 (.arr x)
         |false=>K x
      |false=>False
     |none=>False
    |_=>match parts with
     |[(0,.agg cs)]=>match zp7 kd.empty sz cs with
      |true=>zem cs fun cs=>K2 (.hol (kd.zeros 1) 0 cs)
      |false=>False
     |[(0,.slc a)]=>match zp7 kd.empty sz [.slc a]with
      |true=>K2 (.hol (kd.zeros 1) 0 [.slc a])
      |false=>False
     |_=>False
   |false=>False
  |false=>False
 |_=>False
def zhh (T:TT) (t:Nat) (l c:V) (K:Ef→Prop):Prop :=
 match T t with
 |.slice _ sz _ kd=>match l,c with
  |.c (.int .i64 a),.c (.int .i64 b) =>
   match Nat.beq kd.empty.stride sz with
   |true=>vneed (0≤a∧a=b∧a≤4294967296) (match kd.nest with
    |false=>K (.new (.slc 0) rfl (.arr (kd.zeros a.toNat)))
    |true=>vch (K (.new (.slc 0) rfl (.arr (kd.zeros a.toNat)))) (K (.new (.slc 0) rfl (.deep false 0 (kd.zeros a.toNat) []))))
   |false=>False
  |_,_=>False
 |_=>False
def eps (ev:Operand→V):List (Nat×Operand)→List (Nat×V)
 |[]=>[]
 |(i,x)::t=>(i,ev x)::eps ev t
def ess (ev:Operand→V):List Operand→List V
 |[]=>[]
 |x::t=>ev x::ess ev t
def vd (T:TT) (P:Program) (o:Oper) (ev:Operand→V) (lk:Nat→Option O) (K:Ef→Prop):Prop :=
 match o.op with
 |.move x=>fin (ev x) K
 |.assign x=>fin (ev x) K
 |.pick c a b=>match ev c with
  |.tt=>fin (ev a) K
  |.ff=>fin (ev b) K
  |_=>False
 |.alloc t=>zh4 T t K
 |.box _ x=>match (ev x).oneAgg with
  |true=>K (.new (.ptr 0 0 (0) 0) rfl (.box (ev x).cells [] []))
  |false=>False
 |.build t parts=>match zku (eps ev parts.toList)with
  |true=>zgf T t (eps ev parts.toList) fun v=>fin v K
  |false=>False
 |.buildSlice t len parts=>zgn T (ych o.dst) t len (eps ev parts.toList) (fun x=>K (.val (.c x))) fun ob=>K (.new (.slc 0) rfl ob)
 |.load t a=>zdw T lk t (ev a) fun v=>fin v K
 |.store t a v=>match (T t).ok with
  |true=>zc4 T t lk (ev a) (ev v) fun id ob=>K (.set (.tup []) id ob)
  |false=>False
 |.nilCheck x=>match ev x with
  |.iptr row=>K (.val (.iptr row))
  |.ptr i a b c=>K (.val (.ptr i a b c))
  |_=>False
 |.binOp op t x y _=>match zkv T t (ev x)with
  |true=>zhu op (ev x) (ev y) fun v=>fin v K
  |false=>False
 |.unOp op _ x=>vun op (ev x) fun v=>fin v K
 |.convert r d x=>match intT (T r)with
  |true=>zj3 T d (ev x) fun v=>fin v K
  |false=>False
 |.makeSlice t l c=>zhh T t (ev l) (ev c) K
 |.slice t x lo hi mx=>zdz T t (ev x) (lo.map ev) (hi.map ev) (mx.map ev) fun v=>fin v K
 |.fieldAddr t x f=>zdc T t (ev x) f fun v=>fin v K
 |.field t x f=>zhi T t (ev x) f fun v=>fin v K
 |.indexAddr t x ix=>zb9 T lk t (ev x) (ev ix) fun v=>fin v K
 |.extract x i=>match ev x with
  |.tup vs=>match zmi vs i with|some v=>fin v K|none=>False
  |_=>False
 |.call c=>match c.callee with
  |.builtin b=>match b,ess ev c.args.toList with
   |.len,[x]=>match c.argTypes.toList with
    |t::_=>match T t with
     |.slice _ _ _ _=>ziq lk x fun v=>fin v K
     |_=>False
    |_=>False
   |.append,[x,y]=>match c.argTypes.toList with
    |[t,t']=>match T t' with
     |.slice _ _ _ _=>zgm T t lk x y K
     |_=>False
    |_=>False
   |.min,[x,y]=>vmm false [x,y] fun v=>fin v K
   |.max,[x,y]=>vmm true [x,y] fun v=>fin v K
   |_,_=>False
  |.value f=>match ev f with
   |.fn g caps=>vcalld P g (ess ev c.args.toList++caps) lk K
   |_=>False
  |.invoke _ _=>False
 |_=>False
def zbx:List (Nat×O)→Nat→List (Nat×O)
 |[],_=>[]
 |(k,v)::t,j=>match Nat.beq k j with|true=>zbx t j|false=>(k,v)::zbx t j
def Ef.val? (k:Nat):Ef→V
 |.val v=>v
 |.set v _ _=>v
 |.new st _ _=>st.ren fun _=>k
 |.app id _=>.slc id
 |.fx _ _ _ st _=>st.ren fun j=>k+20*j
 |.mv _ _=>.slc k
 |.mf _ z=>.c z
 |.tk _ v=>v
def z54:List (Nat×O)→List Nat→List (Nat×O)
 |hp,[]=>hp
 |hp,a::t=>z54 (zbx hp a) t
def zd2 (k:Nat):Nat→List O→List (Nat×O)
 |_,[]=>[]
 |j,o::t=>(k+20*j,o)::zd2 k (j+1) t
def zdv:List (Nat×O)→List (Nat×O)→List (Nat×O)
 |[],hp=>hp
 |(i,o)::t,hp=>zdv t (zac hp i o)
def zcb (dst:Option Nat) (v:V) (env:List (Nat×V)):List (Nat×V) :=
 match dst with
 |some d=>(d,v)::env
 |none=>env
def Ef.apply (k:Nat) (dst:Option Nat) (e:Ef) (s:S):S :=
 match e with
 |.val v=>⟨s.nt,s.nx,zcb dst v s.env,s.hp⟩
 |.set v id ob=>⟨s.nt,s.nx,zcb dst v s.env,zac s.hp id ob⟩
 |.new st h ob=>⟨s.nt,s.nx,zcb dst (Ef.val? k (.new st h ob)) s.env,(k,ob)::s.hp⟩
 |.app id z=>⟨s.nt,s.nx,zcb dst (.slc id) (zb2 (V.forget id) s.env),zac (za7 (z6 id) s.hp) id z⟩
 |.fx sets news rds st h=>⟨s.nt,s.nx,zcb dst (Ef.val? k (.fx sets news rds st h)) s.env,zd2 k 0 news++zdv sets s.hp⟩
 |.mv id z=>⟨s.nt,s.nx,zcb dst (.slc k) s.env,(k,.arr z)::zbx s.hp id⟩
 |.mf id z=>⟨s.nt,s.nx,zcb dst (.c z) s.env,zbx s.hp id⟩
 |.tk ids v=>⟨s.nt,s.nx,zcb dst v s.env,z54 s.hp ids⟩
def Ef.applyM (k:Nat) (dst:Option Nat) (e:Ef) (s:S):S :=
 match s with
 |⟨nt,nx,env,hp⟩=>match e with
  |.val v=>⟨nt,nx,zcb dst v env,hp⟩
  |.set v id ob=>⟨nt,nx,zcb dst v env,zac hp id ob⟩
  |.new st h ob=>⟨nt,nx,zcb dst (Ef.val? k (.new st h ob)) env,(k,ob)::hp⟩
  |.app id z=>⟨nt,nx,zcb dst (.slc id) (zb2 (V.forget id) env),zac (za7 (z6 id) hp) id z⟩
  |.fx sets news rds st h=>⟨nt,nx,zcb dst (Ef.val? k (.fx sets news rds st h)) env,zd2 k 0 news++zdv sets hp⟩
  |.mv id z=>⟨nt,nx,zcb dst (.slc k) env,(k,.arr z)::zbx hp id⟩
  |.mf id z=>⟨nt,nx,zcb dst (.c z) env,zbx hp id⟩
  |.tk ids v=>⟨nt,nx,zcb dst v env,z54 hp ids⟩
def Ef.applyK (k:Nat) (dst:Option Nat) (e:Ef) (s:S) (K:S→Prop):Prop :=
 match s with
 |⟨nt,nx,env,hp⟩=>match e with
  |.val v=>v.force fun v=>match dst with
   |some d=>K ⟨nt,nx,(d,v)::env,hp⟩
   |none=>K ⟨nt,nx,env,hp⟩
  |.set v id ob=>v.force fun v=>zes (zac hp id ob) fun hp=>match dst with
   |some d=>K ⟨nt,nx,(d,v)::env,hp⟩
   |none=>K ⟨nt,nx,env,hp⟩
  |.new st h ob=>(Ef.val? k (.new st h ob)).force fun v=>zes [(k,ob)] fun h1=>match h1 with
   |[x]=>match dst with
    |some d=>K ⟨nt,nx,(d,v)::env,x::hp⟩
    |none=>K ⟨nt,nx,env,x::hp⟩
   |_=>False
  |.app id z=>(Ef.applyM k dst (.app id z) ⟨nt,nx,env,hp⟩).force K
  |.fx sets news rds st h=>(Ef.applyM k dst (.fx sets news rds st h) ⟨nt,nx,env,hp⟩).force K
  |.mv id z=>z.force fun z=>zes (zbx hp id) fun hp=>match dst with
   |some d=>K ⟨nt,nx,(d,.slc k)::env,(k,.arr z)::hp⟩
   |none=>K ⟨nt,nx,env,(k,.arr z)::hp⟩
  |.mf id z=>z.force fun z=>zes (zbx hp id) fun hp=>match dst with
   |some d=>K ⟨nt,nx,(d,.c z)::env,hp⟩
   |none=>K ⟨nt,nx,env,hp⟩
  |.tk ids v=>v.force fun v=>zes (z54 hp ids) fun hp=>match dst with
   |some d=>K ⟨nt,nx,(d,v)::env,hp⟩
   |none=>K ⟨nt,nx,env,hp⟩
structure Rec where
 names:List Nat
 dst:List Nat
 mn:List Nat
 rd:List Nat
 wr:List Nat
 nw:List Nat
 tot:Bool
 pu:Bool
def Op.quietName:Op→Bool
 |.move _=>true
 |.assign _=>true
 |.pick _ _ _=>true
 |.fieldAddr _ _ _=>true
 |.nilCheck _=>true
 |.build _ _=>true
 |.extract _ _=>true
 |.field _ _ _=>true
 |_=>false
def zm9:List Operand→List Nat
 |[]=>[]
 |.tmp t::r=>t::zm9 r
 |_::r=>zm9 r
def zrr (ops:List Oper) (o:Oper):List Nat :=
 match o.guard with
 |none=>[]
 |some (j,_)=>match zig ops j with|some d=>[d]|none=>[]
def Ef.wr:Ef→List Nat
 |.set _ id _=>[id]
 |.app id _=>[id]
 |.fx sets _ _ _ _=>zbl sets
 |.mv id _=>[id]
 |.mf id _=>[id]
 |.tk ids _=>ids
 |_=>[]
def Ef.nw (k:Nat):Ef→List Nat
 |.new _ _ _=>[k]
 |.fx _ news _ _ _=>zbl (zd2 k 0 news)
 |.mv _ _=>[k]
 |_=>[]
def Ef.rds:Ef→List Nat
 |.fx _ _ rds _ _=>rds
 |_=>[]
def idsO:List (Nat×O)→List Nat
 |[]=>[]
 |(_,o)::t=>o.ids++idsO t
def Ef.isNew:Ef→Bool
 |.new _ _ _=>true
 |.fx _ _ _ _ _=>true
 |.mv _ _=>true
 |_=>false
def Ef.tot:Ef→Bool
 |.app _ _=>true
 |_=>false
def Ef.obIds:Ef→List Nat
 |.set _ id ob=>id::ob.ids
 |.new _ _ ob=>ob.ids
 |.app id ob=>id::ob.ids
 |.val _=>[]
 |.fx sets news rds _ _=>zbl sets++idsO sets++idsO (zak 0 news)++rds
 |.mv id _=>[id]
 |.mf id _=>[id]
 |.tk ids _=>ids
def Ef.pu:Ef→Bool
 |.fx _ news _ _ _=>zka news
 |_=>true
def zda (ops:List Oper) (k:Nat) (o:Oper) (ev:Operand→V) (e:Ef):Rec where
 names:=o.dst.toList++zm9 o.op.operands.toList++zrr ops o
 dst:=o.dst.toList
 mn:=(match e.isNew with|true=>[]|false=>(e.val? k).ids)++e.obIds++za9 (ess ev o.op.operands.toList)
 rd:=e.rds++(match Op.quietName o.op with|true=>[]|false=>za9 (ess ev o.op.operands.toList))
 wr:=e.wr
 nw:=e.nw k
 tot:=e.tot
 pu:=e.pu
def zcm:List Nat→List Nat→Bool
 |[],_=>false
 |a::t,l=>match zc7 a l with|true=>true|false=>zcm t l
def zga (anc:Bool) (a b:Rec):Bool :=
 match anc with
 |true=>match zcm b.nw a.mn,zcm a.nw b.nw with|false,false=>true|_,_=>false
 |false =>
  !(zcm a.nw b.nw)&&!(zcm a.dst b.names)&&!(zcm b.dst a.names)&&!(zcm a.wr b.rd)&&!(zcm b.wr a.rd)&&!(zcm a.wr b.wr)&&!a.tot&&!b.tot&&!(zcm a.nw b.mn)&&!(zcm b.nw a.mn)
def zjb (after:List Edge) (acc:List Nat):Nat :=
 match after with
 |[]=>0
 |e::t=>match Region.binds .any e with
  |true=>(2 ^ e.on ||| acc.getD e.on 0) ||| zjb t acc
  |false=>zjb t acc
def zd4:List Oper→List Nat→List Nat
 |[],acc=>acc
 |o::t,acc=>zd4 t (acc++[zjb o.after.toList acc])
def zja:List Oper→Nat→Bool
 |[],_=>true
 |o::t,i=>match o.after.toList.all (fun e=>!(Region.binds .any e)||Nat.blt e.on i)with
  |true=>zja t (i+1)
  |false=>false
def zpu (n:Nat):List Nat→Bool
 |[]=>true
 |a::t=>match Nat.blt a n with|true=>zpu n t|false=>false
def Rec.own (n:Nat) (r:Rec):Bool :=
 match r.pu with
 |true=>match zpu n r.mn,zpu n r.nw with
  |true,true=>match zcm r.nw r.mn with|true=>false|false=>true
  |_,_=>false
 |false=>false
def zk7 (n:Nat) (ms:List Nat):List Rec→Nat→List (Nat×Rec)→Bool
 |[],_,_=>true
 |r::t,j,seen=>match r.own n&&seen.all (fun p=>zga ((ms.getD j 0).testBit p.1) p.2 r)with
  |true=>zk7 n ms t (j+1) (seen++[(j,r)])
  |false=>false
def zpb (T:TT) (P:Program) (ops:List Oper) (nx0:Nat) (o:Oper) (rest:Nat→S→List Rec→(S→List Rec→Prop)→Prop) (i:Nat) (s:S) (rs:List Rec) (K:S→List Rec→Prop):Prop :=
 vd T P o (evl s.env) (zq s.hp) fun e=>e.applyK (nx0+i) o.dst s fun s'=>rest (i+1) s' (rs++[zda ops (nx0+i) o (evl s.env) e]) K
def znf (ops:List Oper) (nx0:Nat) (o:Oper) (rest:Nat→S→List Rec→(S→List Rec→Prop)→Prop) (i:Nat) (s:S) (rs:List Rec) (K:S→List Rec→Prop):Prop :=
 (Ef.val (.tup [])).applyK (nx0+i) o.dst s fun s'=>rest (i+1) s' (rs++[zda ops (nx0+i) o (evl s.env) (.val (.tup []))]) K
def zqa (T:TT) (P:Program) (ops:List Oper) (nx0:Nat) (o:Oper) (rest:Nat→S→List Rec→(S→List Rec→Prop)→Prop) (i:Nat) (s:S) (rs:List Rec) (K:S→List Rec→Prop):Prop :=
 match o.guard with
 |none=>zpb T P ops nx0 o rest i s rs K
 |some (j,want)=>match zig ops j with
  |none=>False
  |some d=>match zaw s.env d with
   |.tt=>match want with|true=>zpb T P ops nx0 o rest i s rs K|false=>znf ops nx0 o rest i s rs K
   |.ff=>match want with|true=>znf ops nx0 o rest i s rs K|false=>zpb T P ops nx0 o rest i s rs K
   |.tup _=>znf ops nx0 o rest i s rs K
   |_=>False
def vds (T:TT) (P:Program) (ops:List Oper) (nx0:Nat) (l:List Oper):Nat→S→List Rec→(S→List Rec→Prop)→Prop :=
 List.rec (motive:=fun _=>Nat→S→List Rec→(S→List Rec→Prop)→Prop) (fun _ s rs K=>K s rs) (fun o _ ih=>zqa T P ops nx0 o ih) l
def zkt (nt:Nat):List Oper→Bool
 |[]=>true
 |o::t=>match o.dst with
  |none=>zkt nt t
  |some d=>match Nat.blt d nt with|true=>zkt nt t|false=>false
def zyr (nt nx:Nat) (ops:List Oper) (rs:List Rec):Bool :=
 zja ops 0&&zkt nt ops&&Nat.ble ops.length 100&&zk7 (nx+100) (zd4 ops []) rs 0 []
def zse (T:TT) (P:Program) (ops:List Oper) (s:S) (K:S→Prop):Prop :=
 match s with
 |⟨nt,nx,env,hp⟩=>vds T P ops nx ops 0 ⟨nt,nx+100,env,hp⟩ [] fun s' rs=>vneed (zyr nt nx ops rs=true) (K s')
def zv7:List (Nat×O)→Bool
 |[]=>false
 |(_,o)::t=>match o with
  |.hol _ _ _=>true
  |.deep _ _ _ _=>true
  |_=>zv7 t
@[irreducible] def vpreI (n0 : Nat) (s : S) (K : S → Prop) : Prop := ∃ l : List Gh, vgh n0 l s K
def zop (n0:Nat) (s:S) (K:S→Prop):Prop :=
 match zv7 s.hp with
 |false=>K s
 |true=>vpreI n0 s K
abbrev VC:=(Exit→S→Prop)→S→Prop
def z2f (n0:Nat) (T:TT) (P:Program) (ops:Array Oper) (draw:Bool) (Q:Exit→S→Prop) (s:S):Prop :=
 match draw with
 |true=>vpreI n0 s fun s=>zse T P ops.toList s (Q .normal)
 |false=>zop n0 s fun s=>vops T P ops.toList ops.toList s (Q .normal)
def vSeq (a b:VC) (Q:Exit→S→Prop) (s:S):Prop:=a (fun e s=>match e with|.normal=>b Q s|e=>Q e s) s
def zw3 (c:Operand) (a b:VC) (Q:Exit→S→Prop) (s:S):Prop :=
 match evl s.env c with
 |.tt=>a Q s
 |.ff=>b Q s
 |.c (.bool p)=>vif p (a Q s) (b Q s)
 |_=>False
def z3g (id:Nat) (a:VC) (Q:Exit→S→Prop) (s:S):Prop :=
 a (fun e s=>match e with
  |.exit i=>match Nat.beq i id with|true=>Q .normal s|false=>Q (.exit i) s
  |e=>Q e s) s
def vwp (n0:Nat) (T:TT) (P:Program) (c:Code):VC :=
 Code.rec (motive:=fun _=>VC) (fun Q s=>Q .normal s) (fun _ ops draw=>z2f n0 T P ops draw) (fun _ _ a b=>vSeq a b) (fun c _ _ a b=>zw3 c a b)
  (fun id _ a=>z3g id a) (fun _ a Q s=>vloop n0 a Q s) (fun _ _ _ _ _ _ _ _=>False) (fun id Q s=>Q (.exit id) s) (fun _ _ _ _=>False) (fun _ _ _=>False) (fun _ _ _=>False)
  (fun Q s=>Q .ret s) (fun _ _ _=>False) c
def ze5 (T:TT) (s:S):List ResultVar→(List V→Prop)→Prop
 |[],K=>K []
 |.tmp t::rs,K=>(zaw s.env t).force fun v=>ze5 T s rs fun vs=>K (v::vs)
 |.cell a t::rs,K=>zdw T (zq s.hp) t (zaw s.env a) fun v=>ze5 T s rs fun vs=>K (v::vs)
def zdq:List V→V
 |[v]=>v
 |vs=>.tup vs
@[irreducible] def vend (n0 m : Nat) (res : V) (hout : List (Nat × O)) (s : S) (v : V) : Prop :=
 ∃fz bk:List Nat,vfz fz s [v] fun s vs =>
  (match vs with | [v]=>v.nrm=(res.ren (rnf bk)).nrm|_=>False)∧zkc (rnf bk) (zg9 s.hp) hout ∧
  (zav bk=true∧Nat.beq m bk.length=true∧res.idsLt m=true∧zba m hout=true∧zav (zbl hout)=true∧ze8 n0 (rnf bk) hout=true)
@[irreducible] def vendX (n0 : Nat) (hin : List (Nat × O)) (R : Nat → V → List (Nat × O) → Prop) (s : S) (v : V) : Prop :=
 ∃m res hout,R m res hout∧za3 hin hout=true∧vend n0 m res hout s v
def zk8:List V→Nat→List (Nat×V)
 |[],_=>[]
 |v::t,i=>(i,v)::zk8 t (i+1)
def zud (T:TT) (P:Program) (fn:Func) (c:Code) (n:Nat) (args:List V) (E:S→V→Prop) (hin:List (Nat×O)):Prop :=
 vwp n T P c (fun e s=>match e with
  |.normal=>zop n s fun s=>ze5 T s fn.results.toList fun vs=>E s (zdq vs)
  |.ret=>zop n s fun s=>ze5 T s fn.results.toList fun vs=>E s (zdq vs)
  |_=>False) {nt:=fn.ntmps,nx:=n,env:=zk8 args 0,hp:=hin}
def zwv (T:TT) (P:Program) (fn:Func) (c:Code) (n:Nat) (args:List V) (hin:List (Nat×O)) (m:Nat) (res:V) (hout:List (Nat×O)):Prop :=
 zud T P fn c n args (fun s v=>vend n m res hout s v) hin
def zti (T:TT) (P:Program) (fn:Func) (c:Code) (n:Nat) (args:List V) (hin:List (Nat×O)) (R:Nat→V→List (Nat×O)→Prop):Prop :=
 zud T P fn c n args (fun s v=>vendX n hin R s v) hin
theorem zf2 {w w':World} {b o:Nat} (h:w'.heap[b]? = w.heap[b]?):w'.cell? ⟨b,o,none⟩=w.cell? ⟨b,o,none⟩:=by
 simp only[World.cell?,h]
theorem RC.mono {I I':Nat→Prop} {w w':World} (hI:∀b,I b→I' b) (hw:∀b,I b→w'.heap[b]? = w.heap[b]?) {c:C} {v:Value} (h:RC I w c v):RC I' w' c v:=by
 induction h with
 |int k n=>exact .int k n
 |bool b=>exact .bool b
 |empty c a cap hs h0=>exact .empty c a cap hs h0
 |sl c b off cap val hs hb hcap hc _ ih =>
  exact .sl c b off cap val hs (hI b hb) hcap (fun i j x h1 h2=>by rw[zf2 (hw b hb)];exact hc i j x h1 h2) (fun i j x h1 h2=>ih i j x h1 h2)
theorem RV.mono {I I':Nat→Prop} {g g':Gam} {n n':Nat} {w w':World} (hI:∀b,I b→I' b) (hw:∀b,I b→w'.heap[b]? = w.heap[b]?)
  (hn:n≤n') (hg:∀id,id<n→g' id=g id) {x:V} {v:Value} (h:RV I g n w x v):RV I' g' n' w' x v:=by
 induction h with
 |any v=>exact .any v
 |tt=>exact .tt
 |ff=>exact .ff
 |nil=>exact .nil
 |c x v h=>exact .c x v (h.mono hI hw)
 |agg xs vs hl _ ih=>exact .agg xs vs hl fun i x v h1 h2=>ih i x v h1 h2
 |tup xs vs hl _ ih=>exact .tup xs vs hl fun i x v h1 h2=>ih i x v h1 h2
 |fn f xs vs hl _ ih=>exact .fn f xs vs hl fun i x v h1 h2=>ih i x v h1 h2
 |iptr row b off val hb hc hr =>
  exact .iptr row b off val (hI b hb) (fun j x h=>by rw[zf2 (hw b hb)];exact hc j x h) fun j x h=>(hr j x h).mono hI hw
 |ptr id i st j b cl h1 h2=>exact .ptr id i st j b cl (by omega) (by rw[hg id h1,h2])
 |slc id len b cap h1 h2=>exact .slc id len b cap (by omega) (by rw[hg id h1,h2])
 |slc0 id h1 h2=>exact .slc0 id (by omega) (by rw[hg id h1,h2])
theorem NC.mono {w w':World} {c:C} {v:Value} (h:NC w c v) (hw:∀b l n,v=.slice (some ⟨b,0,none⟩) l n→w'.heap[b]? = w.heap[b]?):NC w' c v:=by
 cases h with
 |int k n=>exact .int k n
 |bool b=>exact .bool b
 |nil k=>exact .nil k
 |sl k xs b cap cells ty hb hl hc h=>exact .sl k xs b cap cells ty (by rw[hw b _ _ rfl];exact hb) hl hc h
theorem Own.pri {g:Gam} {w:World} {id b:Nat} {o:O} {cl:Nat×Nat} (h:g id=some (b,cl)):Own g w id o b:=.inl ⟨cl,h⟩
theorem Nst.not {g:Gam} {w:World} {id b:Nat} {o:O} (h:Nst g w id o b):∃p f x hs,o=.deep p f x hs:=by
 cases o with
 |deep p f x hs=>exact⟨p,f,x,hs,rfl⟩
 |_=>exact h.elim
theorem Nst.congr {g g':Gam} {w w':World} {id id' b:Nat} {o:O} (hg:g' id'=g id) (hw:∀b cl,g id=some (b,cl)→w'.heap[b]? = w.heap[b]?) (h:Nst g' w' id' o b):Nst g w id o b:=by
 cases o with
 |deep p f x hs =>
  obtain⟨b0,cl,k,off,len,cap,h1,h2,h3⟩:=h
  rw[hg]at h1
  exact⟨b0,cl,k,off,len,cap,h1,h2,by rw[zf2 (hw b0 cl h1)]at h3;exact h3⟩
 |_=>exact h
theorem Own.congr {g g':Gam} {w w':World} {id id' b:Nat} {o:O} (hg:g' id'=g id) (hw:∀b cl,g id=some (b,cl)→w'.heap[b]? = w.heap[b]?) (h:Own g' w' id' o b):Own g w id o b:=by
 rcases h with ⟨cl,h⟩|h
 ·exact .inl ⟨cl,hg▸h⟩
 ·exact .inr (h.congr hg hw)
theorem zbs (fl:List V→List V) (hs:List (Nat×List V)):zx (zbk fl hs)=zx hs:=by
 induction hs with
 |nil=>rfl
 |cons x t ih=>obtain⟨i,vs⟩:=x;simp only[zbk,zx,List.map_cons];simp only[zx]at ih;rw[ih]
theorem zjt (fl:List V→List V) (hs:List (Nat×List V)):zbk fl hs=hs.map fun q=>(q.1,fl q.2):=by
 induction hs with
 |nil=>rfl
 |cons x t ih=>obtain⟨i,vs⟩:=x;simp[zbk,ih]
theorem zg2 {fl:List V→List V} {hs:List (Nat×List V)} {i:Nat} {us:List V} (h:(i,us)∈zbk fl hs):∃vs,(i,vs)∈hs∧us=fl vs:=by
 rw[zjt]at h
 obtain⟨⟨i',vs⟩,h1,h2⟩:=List.mem_map.1 h
 cases h2
 exact⟨vs,h1,rfl⟩
theorem Nst.map {g:Gam} {w:World} {id b:Nat} {o:O} {fl:List V→List V} (h:Nst g w id (o.map fl) b):Nst g w id o b:=by
 cases o with
 |deep p f x hs=>simpa only[Nst,O.map,zbs]using h
 |_=>exact h
theorem Own.map {g:Gam} {w:World} {id b:Nat} {o:O} {fl:List V→List V} (h:Own g w id (o.map fl) b):Own g w id o b:=h.imp _root_.id Nst.map
theorem Own.nd {g:Gam} {w:World} {id b:Nat} {o:O} (ho:∀p f x hs,o≠.deep p f x hs) (h:Own g w id o b):∃cl,g id=some (b,cl):=by
 rcases h with h|h
 ·exact h
 ·obtain⟨p,f,x,hs,e⟩:=h.not;exact(ho p f x hs e).elim
theorem C.row_len (x:C) (i:Nat) (hs:x.isSl=true):(x.row i).length=x.stride:=by
 cases x<;>first|rfl|cases hs
theorem RO.mono {I I':Nat→Prop} {g g':Gam} {n n':Nat} {w w':World} (hI:∀b,I b→I' b) (hw:∀b,I b→w'.heap[b]? = w.heap[b]?)
  (hn:n≤n') (hg:∀id,id<n→g' id=g id) {id:Nat} (hid:id<n) {o:O} (hb:∀b,Own g w id o b→w'.heap[b]? = w.heap[b]?) (h:RO I g n w id o):RO I' g' n' w' id o:=by
 have hb':∀b cl,g id=some (b,cl)→w'.heap[b]? = w.heap[b]?:=fun b cl h=>hb b (.pri h)
 cases h with
 |box pre bs post b cl cells ty hg' hb0 hl h1 h2 h3 =>
  exact .box pre bs post b cl cells ty (by rw[hg id hid,hg']) (by rw[hb' b cl hg'];exact hb0) hl
   (fun i x v a1 a2=>(h1 i x v a1 a2).mono hI hw hn hg) h2 (fun i x v a1 a2=>(h3 i x v a1 a2).mono hI hw hn hg)
 |none x hg' hs h0=>exact .none x (by rw[hg id hid,hg']) hs h0
 |arr x b cap cells ty hg' hs hb0 hl hcap h ht =>
  exact .arr x b cap cells ty (by rw[hg id hid,hg']) hs (by rw[hb' b _ hg'];exact hb0) hl hcap
   (fun i j y a1 a2=>let ⟨v,h1,h2⟩:=h i j y a1 a2;⟨v,h1,h2.mono hI hw⟩) ht
 |hol x hi vs b cap cells ty hg' hs hb0 hl hcap hhi hv h h2 ht =>
  exact .hol x hi vs b cap cells ty (by rw[hg id hid,hg']) hs (by rw[hb' b _ hg'];exact hb0) hl hcap hhi hv
   (fun i j y a1 a2 a3=>let ⟨v,h1,h2⟩:=h i j y a1 a2 a3;⟨v,h1,h2.mono hI hw⟩) (fun j hj=>let ⟨u,v,a1,a2,a3,a4⟩:=h2 j hj;⟨u,v,a1,a2,a3,a4.mono hI hw hn hg⟩) ht
 |deep0 p f x hg' hs h0=>exact .deep0 p f x (by rw[hg id hid,hg']) hs h0
 |deep p f x hs b cap cells ty hg' hsl hb0 hl hcap hh hkn h h2 hd ht =>
  refine .deep p f x hs b cap cells ty (by rw[hg id hid,hg']) hsl (by rw[hb' b _ hg'];exact hb0) hl hcap hh hkn (fun i j y a1 a2 a3 a4=>?_) (fun i us hm j hj=>let ⟨u,v,a1,a2,a3,a4⟩:=h2 i us hm j hj;⟨u,v,a1,a2,a3,a4.mono hI hw hn hg⟩) hd ht
  obtain⟨v,h3,h4⟩:=h i j y a1 a2 a3 a4
  refine⟨v,h3,h4.mono fun b1 l n e=>hb b1 (.inr ⟨b,_,i*x.stride+j,0,l,n,hg',⟨i,j,rfl,?_,a1,a2,a3⟩,?_⟩)⟩
  ·have:=(List.getElem?_eq_some_iff.1 a4).1;rwa [C.row_len _ _ hsl]at this
  ·rw[cell_of_row w b _ cells.toArray ty (0,0) hb0];rw[←e];simpa using h3
theorem HOk.mono {I I':Nat→Prop} {g:Gam} {n n':Nat} {w w':World} {hp:List (Nat×O)} (h:HOk I g n w hp)
  (hI:∀b,I b→I' b) (hI':∀b,I' b→I b∨w.heap.size≤b) (hw:∀b,I b→w'.heap[b]? = w.heap[b]?) (hn:n≤n')
  (hd:∀b,Dom g w hp b→w'.heap[b]? = w.heap[b]?) (hs:w.heap.size≤w'.heap.size):HOk I' g n' w' hp:=by
 have back:∀{id o b},(id,o)∈hp→Own g w' id o b→Own g w id o b:=fun hm ho=>ho.congr rfl fun b cl hg=>hd b ⟨_,_,hm,.pri hg⟩
 exact {
  obj:=fun id o hm=>⟨by have:=(h.obj id o hm).1;omega,(h.obj id o hm).2.mono hI hw hn (fun _ _=>rfl) (h.obj id o hm).1 fun b hb=>hd b ⟨id,o,hm,hb⟩⟩
  apart:=fun id o b hm hg=>by
   obtain⟨h1,h2⟩:=h.apart id o b hm (back hm hg)
   refine⟨fun hc=>?_,by omega⟩
   rcases hI' b hc with h3|h3
   ·exact h1 h3
   ·omega
  nodup:=h.nodup
  inj:=fun id o id' o' b h1 h2 g1 g2=>h.inj id o id' o' b h1 h2 (back h1 g1) (back h2 g2)}
theorem Dom.back {g:Gam} {w w':World} {hp:List (Nat×O)} (hd:∀b,Dom g w hp b→w'.heap[b]? = w.heap[b]?) {b:Nat} (h:Dom g w' hp b):Dom g w hp b:=by
 obtain⟨id,o,hm,ho⟩:=h
 exact⟨id,o,hm,ho.congr rfl fun b cl hg=>hd b ⟨_,_,hm,.pri hg⟩⟩
theorem zsh (n:Nat) (K:Nat→Prop):nf n K=K n:=by cases n<;>rfl
theorem V.force1_eq (v:V) (K:V→Prop):v.force1 K=K v:=by
 cases v with
 |c x=>cases x<;>rfl
 |ptr a b c d=>simp only[V.force1,zsh]
 |slc a=>simp only[V.force1,zsh]
 |_=>rfl
theorem C.force_eq (v:C) (K:C→Prop):v.force K=K v:=by cases v<;>rfl
theorem zdd (l:List V) (K:List V→Prop):zem l K=K l:=by
 induction l generalizing K with
 |nil=>rfl
 |cons v t ih=>simp only[zem,V.force1_eq,ih]
theorem V.force2_eq (v:V) (K:V→Prop):v.force2 K=K v:=by
 cases v with
 |agg xs=>exact zdd xs _
 |c x=>exact V.force1_eq (.c x) K
 |ptr a b c d=>exact V.force1_eq (.ptr a b c d) K
 |slc a=>exact V.force1_eq (.slc a) K
 |_=>rfl
theorem zwm (l:List V) (K:List V→Prop):zni l K=K l:=by
 induction l generalizing K with
 |nil=>rfl
 |cons v t ih=>simp only[zni,V.force2_eq,ih]
theorem V.force_eq (v:V) (K:V→Prop):v.force K=K v:=by
 cases v with
 |tup xs=>exact zwm xs _
 |agg xs=>exact V.force2_eq (.agg xs) K
 |c x=>exact V.force2_eq (.c x) K
 |ptr a b c d=>exact V.force2_eq (.ptr a b c d) K
 |slc a=>exact V.force2_eq (.slc a) K
 |_=>rfl
theorem zy7 (l:List (Nat×V)) (K:List (Nat×V)→Prop):zp3 l K=K l:=by
 induction l generalizing K with
 |nil=>rfl
 |cons v t ih=>obtain⟨k,v⟩:=v;simp only[zp3,V.force_eq,ih]
theorem zx4 (l:List (Nat×List V)) (K:List (Nat×List V)→Prop):znd l K=K l:=by
 induction l generalizing K with
 |nil=>rfl
 |cons v t ih=>obtain⟨k,v⟩:=v;simp only[znd,zdd,ih]
theorem zfv (l:List (Nat×O)) (K:List (Nat×O)→Prop):zes l K=K l:=by
 induction l generalizing K with
 |nil=>rfl
 |cons v t ih =>
  obtain⟨k,o⟩:=v
  cases o<;>simp only[zes,zsh,C.force_eq,zdd,zx4,ih]
theorem S.force_eq (s:S) (K:S→Prop):s.force K=K s:=by
 cases s;simp only[S.force,zsh,zy7,zfv]
theorem S.withHp_eq (s:S) (hp:List (Nat×O)) (K:S→Prop):s.withHp hp K=K {s with hp:=hp}:=by
 cases s;simp only[S.withHp,zfv]
theorem S.put_none (s:S) (v:V) (K:S→Prop):s.put none v K=K s:=by cases s;rfl
theorem S.put_some (s:S) (d:Nat) (v:V) (K:S→Prop):s.put (some d) v K=(d<s.nt∧K {s with env:=(d,v)::s.env}):=by
 cases s with
 |mk nt nx env hp =>
  simp only[S.put]
  cases h:Nat.blt d nt with
  |true=>simp only[V.force_eq];have:d<nt:=Nat.blt_eq.mp h;simp[this]
  |false =>
   have:¬d<nt:=fun hc=>by rw[Nat.blt_eq.mpr hc]at h;cases h
   simp[this]
theorem zc1 (k:Nat) (v:V) (t:List (Nat×V)) (j:Nat):zaw ((k,v)::t) j=if k=j then v else zaw t j:=by
 simp only[zaw]
 cases h:Nat.beq k j with
 |true=>have:=Nat.eq_of_beq_eq_true h;simp[this]
 |false=>have:k≠j:=Nat.ne_of_beq_eq_false h;simp[this]
theorem zaz (k:Nat) (v:O) (t:List (Nat×O)) (j:Nat):zq ((k,v)::t) j=if k=j then some v else zq t j:=by
 simp only[zq]
 cases h:Nat.beq k j with
 |true=>have:=Nat.eq_of_beq_eq_true h;simp[this]
 |false=>have:k≠j:=Nat.ne_of_beq_eq_false h;simp[this]
theorem zt {hp:List (Nat×O)} {j:Nat} {o:O} (h:zq hp j=some o):(j,o)∈hp:=by
 induction hp with
 |nil=>cases h
 |cons x t ih =>
  obtain⟨k,v⟩:=x
  rw[zaz]at h
  split at h
  ·rename_i e;subst e;cases h;exact List.mem_cons_self
  ·exact List.mem_cons_of_mem _ (ih h)
theorem zco {hp:List (Nat×O)} (hn:(hp.map (·.1)).Nodup) {j:Nat} {o:O} (h:(j,o)∈hp):zq hp j=some o:=by
 induction hp with
 |nil=>cases h
 |cons x t ih =>
  obtain⟨k,v⟩:=x
  rw[zaz]
  simp only[List.map_cons,List.nodup_cons]at hn
  rcases List.mem_cons.1 h with h|h
  ·cases h;simp
  ·have:k≠j:=fun e=>hn.1 (by rw[e];exact List.mem_map.2 ⟨_,h,rfl⟩)
   rw[if_neg this];exact ih hn.2 h
structure Cx where
 W:World
 I0:Nat→Prop
 D0:Nat→Prop
 K0:Nat→Prop
 g0:Gam
structure St (X:Cx) (I:Nat→Prop) (g:Gam) (s:S) (a:Act) (w:World):Prop where
 df:a.defers=[]
 sz:a.tmps.size=s.nt
 slots:∀j,RV I g s.nx w (zaw s.env j) (a.tmps.getD j undef)
 heap:HOk I g s.nx w s.hp
 bound:∀b,I b→b<w.heap.size
 up:∀b,X.I0 b→I b
 down:∀b,I b→X.I0 b∨X.W.heap.size≤b∨X.D0 b
 own:∀b,Dom g w s.hp b→X.W.heap.size≤b∨X.D0 b
 keep:∀id o,(id,o)∈s.hp→o.isBox=true→X.K0 id→g id=X.g0 id
 fr:Fr X.D0 X.W w
 low:∀id,X.K0 id→id<s.nx
def Sat (X:Cx) (s:S) (a:Act) (w:World):Prop:=∃I g,St X I g s a w
theorem Act.getD_put (a:Act) (d:Nat) (v:Value) (h:d<a.tmps.size) (j:Nat):(a.put (some d) v).tmps.getD j undef=if d=j then v else a.tmps.getD j undef:=by
 simp only[Act.put,Array.getD_eq_getD_getElem?,Array.getElem?_setIfInBounds]
 by_cases e:d=j
 ·subst e;simp[h]
 ·simp[e]
theorem St.put {X:Cx} {I:Nat→Prop} {g:Gam} {s:S} {a:Act} {w:World} (h:St X I g s a w) {d:Nat} (hd:d<s.nt) {v:V} {val:Value}
  (hv:RV I g s.nx w v val):St X I g {s with env:=(d,v)::s.env} (a.put (some d) val) w where
 df:=h.df
 sz:=by simp[Act.put,h.sz]
 slots:=fun j=>by
  rw[Act.getD_put a d val (by rw[h.sz];exact hd),zc1]
  split
  ·exact hv
  ·exact h.slots j
 heap:=h.heap
 bound:=h.bound
 up:=h.up
 down:=h.down
 own:=h.own
 keep:=h.keep
 fr:=h.fr
 low:=h.low
theorem St.putO {X:Cx} {I:Nat→Prop} {g:Gam} {s:S} {a:Act} {w:World} (h:St X I g s a w) {dst:Option Nat} {v:V} {val:Value}
  (hv:RV I g s.nx w v val) {K:S→Prop} (hk:s.put dst v K):∃s',Sat X s' (a.put dst val) w∧K s':=by
 cases dst with
 |none=>rw[S.put_none]at hk;exact⟨s,⟨I,g,h⟩,hk⟩
 |some d=>rw[S.put_some]at hk;exact⟨_,⟨I,g,h.put hk.1 hv⟩,hk.2⟩
theorem St.world {X:Cx} {I:Nat→Prop} {g:Gam} {s:S} {a:Act} {w w':World} (h:St X I g s a w)
  (ho:w'.os=w.os) (ht:w'.tape=w.tape) (hu:w'.output=w.output) (hs:w.heap.size≤w'.heap.size)
  (hb:∀b,b<w.heap.size→w'.heap[b]? = w.heap[b]?):St X I g s a w' where
 df:=h.df
 sz:=h.sz
 slots:=fun j=>(h.slots j).mono (fun _ h=>h) (fun b hI=>hb b (h.bound b hI)) (Nat.le_refl _) fun _ _=>rfl
 heap:=h.heap.mono (fun _ h=>h) (fun _ h=>.inl h) (fun b hI=>hb b (h.bound b hI)) (Nat.le_refl _)
  (fun b ⟨id,o,hm,hg⟩=>hb b (h.heap.apart id o b hm hg).2) hs
 bound:=fun b hI=>Nat.lt_of_lt_of_le (h.bound b hI) hs
 up:=h.up
 down:=h.down
 own:=fun b hd=>h.own b (Dom.back (fun b ⟨id,o,hm,hg⟩=>hb b (h.heap.apart id o b hm hg).2) hd)
 keep:=h.keep
 fr:=⟨ho.trans h.fr.os,ht.trans h.fr.tape,hu.trans h.fr.output,Nat.le_trans h.fr.size hs,fun b hlt hd=>by
  rw[hb b (Nat.lt_of_lt_of_le hlt h.fr.size)];exact h.fr.block b hlt hd⟩
 low:=h.low
theorem zaj {P:Program} {X:Cx} {I:Nat→Prop} {g:Gam} {s:S} {a:Act} {w w':World} {o:Oper} {v:V} {val:Value} {K:S→Prop}
  {N:Act→World→Prop} {Q:Exit→Act→World→Prop}
  (hrun:(execOp a.eval o).run P w=.ok (.value val) w') (hst:St X I g s a w') (hv:RV I g s.nx w' v val) (hk:s.put o.dst v K)
  (hN:∀s' a' w',Sat X s' a' w'→K s'→N a' w'):o.wp P a w N Q:=by
 obtain⟨s',h1,h2⟩:=hst.putO hv hk
 simp only[Oper.wp,hrun,Oper.upon]
 exact hN s' _ _ h1 h2
theorem zn4 {P:Program} {X:Cx} {I:Nat→Prop} {g:Gam} {s:S} {a:Act} {w w':World} {o:Oper} {K:S→Prop}
  {N:Act→World→Prop} {Q:Exit→Act→World→Prop}
  (hrun:(execOp a.eval o).run P w=.ok .skip w') (hst:St X I g s a w') (hk:s.put o.dst (.tup []) K)
  (hN:∀s' a' w',Sat X s' a' w'→K s'→N a' w'):o.wp P a w N Q:=by
 obtain⟨s',h1,h2⟩:=hst.putO (v:=.tup []) (val:=undef) (RV.tup [] [] rfl (by simp)) hk
 simp only[Oper.wp,hrun,Oper.upon]
 exact hN s' _ _ h1 h2
end Go.VL
namespace Go.VL
set_option linter.unusedVariables false
set_option linter.unusedSimpArgs false
variable {P : Program} {T : TT} {X : Cx} {I : Nat → Prop} {g : Gam} {s : S} {a : Act} {w : World} {o : Oper} {K : S → Prop}
 {N:Act→World→Prop} {Q:Exit→Act→World→Prop}
theorem zi9 (n:Nat) (v:Value):RV I g n w (zil v) v:=by
 unfold zil
 split
 ·exact .c _ _ (.int _ _)
 ·exact .tt
 ·exact .ff
 ·exact .nil
 ·rename_i vs
  split
  ·rename_i h
   have:vs=#[]:=by simpa using h
   subst this
   exact .tup [] [] rfl (by simp)
  ·exact .any _
 ·exact .any _
theorem St.eval (h:St X I g s a w) (x:Operand):RV I g s.nx w (evl s.env x) (a.eval x):=by
 cases x with
 |tmp t=>exact h.slots t
 |const v=>exact zi9 _ v
 |global g=>exact .any _
 |func f=>exact .fn f [] [] rfl (by simp)
theorem RV.int_inv {k:IntKind} {m:Int} {n:Nat} {v:Value} (h:RV I g n w (.c (.int k m)) v):v=.int k m:=by
 cases h with|c _ _ h=>cases h with
 |int=>rfl
 |empty _ _ _ hs=>cases hs
 |sl _ _ _ _ _ hs=>cases hs
theorem RV.bool_inv {m:Bool} {n:Nat} {v:Value} (h:RV I g n w (.c (.bool m)) v):v=.bool m:=by
 cases h with|c _ _ h=>cases h with
 |bool=>rfl
 |empty _ _ _ hs=>cases hs
 |sl _ _ _ _ _ hs=>cases hs
theorem RV.tt_inv {n:Nat} {v:Value} (h:RV I g n w .tt v):v=.bool true:=by cases h;rfl
theorem RV.ff_inv {n:Nat} {v:Value} (h:RV I g n w .ff v):v=.bool false:=by cases h;rfl
theorem RV.bool?_inv {x:V} {b:Bool} (hx:x.bool? = some b) {n:Nat} {v:Value} (h:RV I g n w x v):v=.bool b:=by
 cases x with
 |tt=>cases hx;exact h.tt_inv
 |ff=>cases hx;exact h.ff_inv
 |c y=>cases y with
  |bool c=>cases hx;exact h.bool_inv
  |_=>cases hx
 |_=>cases hx
theorem RV.mkbool (b:Bool) (n:Nat):RV I g n w (.c (.bool b)) (.bool b):=.c _ _ (.bool b)
theorem RV.mkint (k:IntKind) (m:Int) (n:Nat):RV I g n w (.c (.int k m)) (.int k m):=.c _ _ (.int k m)
theorem RV.agg_inv {xs:List V} {n:Nat} {v:Value} (h:RV I g n w (.agg xs) v):∃vs:List Value,v=.agg vs.toArray∧xs.length=vs.length∧∀(i:Nat) x v,xs[i]? = some x→vs[i]? = some v→RV I g n w x v:=by
 cases h with|agg _ vs hl h=>exact⟨vs,rfl,hl,h⟩
theorem RV.tup_inv {xs:List V} {n:Nat} {v:Value} (h:RV I g n w (.tup xs) v):∃vs:List Value,v=.tuple vs.toArray∧xs.length=vs.length∧∀(i:Nat) x v,xs[i]? = some x→vs[i]? = some v→RV I g n w x v:=by
 cases h with|tup _ vs hl h=>exact⟨vs,rfl,hl,h⟩
theorem zju {k k':IntKind} (h:zo2 k k'=true):k=k':=by cases k<;>cases k'<;>first|rfl|cases h
theorem zp8 {x:Operand} (ho:o.op=.move x∨o.op=.assign x) (h:St X I g s a w) (hk:s.put o.dst (evl s.env x) K)
  (hN:∀s' a' w',Sat X s' a' w'→K s'→N a' w'):o.wp P a w N Q:=by
 refine zaj (v:=evl s.env x) (val:=a.eval x) (w':=w) ?_ h (h.eval x) hk hN
 rcases ho with ho|ho<;>simp[execOp,ho]
theorem zd8 {p:Bool} {A B:Prop} (h:vif p A B):(p=true→A)∧(p=false→B):=by unfold vif at h;exact h
theorem zv {c A:Prop} (h:vneed c A):c∧A:=by unfold vneed at h;exact h
theorem zg3 {k:IntKind} {r:Int} {K:V→Prop} (h:vint k r K):K (.c (.int k (k.wrap r))):=by
 unfold vint at h
 rcases h with ⟨e,h⟩|h
 ·rw[e];exact h
 ·exact h
theorem zx3 {c x y:Operand} (ho:o.op=.pick c x y) (h:St X I g s a w)
  (hk:match evl s.env c with
   |.tt=>s.put o.dst (evl s.env x) K
   |.ff=>s.put o.dst (evl s.env y) K
   |.c (.bool p)=>vif p (s.put o.dst (evl s.env x) K) (s.put o.dst (evl s.env y) K)
   |_=>False)
  (hN:∀s' a' w',Sat X s' a' w'→K s'→N a' w'):o.wp P a w N Q:=by
 have hc:=h.eval c
 have key:∀p:Bool,a.eval c=.bool p→(p=true→s.put o.dst (evl s.env x) K)→(p=false→s.put o.dst (evl s.env y) K)→o.wp P a w N Q:=by
  intro p hp h1 h2
  cases p with
  |true=>exact zaj (v:=evl s.env x) (val:=a.eval x) (w':=w) (by simp[execOp,ho,hp,asBool]) h (h.eval x) (h1 rfl) hN
  |false=>exact zaj (v:=evl s.env y) (val:=a.eval y) (w':=w) (by simp[execOp,ho,hp,asBool]) h (h.eval y) (h2 rfl) hN
 split at hk
 ·rename_i e;rw[e]at hc;exact key true hc.tt_inv (fun _=>hk) (fun h=>by cases h)
 ·rename_i e;rw[e]at hc;exact key false hc.ff_inv (fun h=>by cases h) (fun _=>hk)
 ·rename_i p e;rw[e]at hc;exact key p hc.bool_inv (zd8 hk).1 (zd8 hk).2
 ·exact hk.elim
theorem zox (d:Nat) {t:TypeId} (w:World) (hu:P.underlying t=some .bool) (b b':Bool) :
  (Op.equalIn (d+1) t (.bool b) (.bool b')).run P w=.ok (b==b') w:=by
 simp[Op.equalIn,run_underlying hu]
theorem zsk {op:BinOp} {t:TypeId} {x y:V} {n:Nat} {vx vy:Value} {KV:V→Prop} {ox oy:Operand}
  (hx:RV I g n w x vx) (hy:RV I g n w y vy) (hk:zhu op x y KV)
  (hT:(∃b b',x.bool? = some b∧y.bool? = some b')→P.underlying t=some .bool)
  (hP:(∃l,x=.agg l)→P.eqGuardType P.depth t=false∧∀a b c d:Int,∀w:World,(Op.equal t (.agg #[.int .i64 a,.int .i64 b]) (.agg #[.int .i64 c,.int .i64 d])).run P w=.ok (a==c&&b==d) w) :
  ∃v val,(do eqGuard op t ox oy vx vy;binOp op t vx vy:Sem Value).run P w=.ok val w∧RV I g n w v val∧KV v:=by
 unfold zhu at hk
 split at hk
 ·rename_i k p k' q
  have e1:=hx.int_inv
  have e2:=hy.int_inv
  subst e1 e2
  split at hk
  ·exact hk.elim
  ·rename_i hs
   have hkk:=zju hs
   subst hkk
   have hg:∀op,(eqGuard op t ox oy (.int k p) (.int k q)).run P w=.ok () w:=by
    intro op;cases op<;>rfl
   split at hk<;>try exact hk.elim
   ·exact⟨_,_,by simp[hg,binOp,Op.intArith],RV.mkint _ _ _,zg3 hk⟩
   ·exact⟨_,_,by simp[hg,binOp,Op.intArith],RV.mkint _ _ _,zg3 hk⟩
   ·exact⟨_,_,by simp[hg,binOp,Op.intArith],RV.mkint _ _ _,zg3 hk⟩
   ·obtain⟨h0,hk⟩:=zv hk
    exact⟨_,_,by simp[hg,binOp,Op.intDiv,h0],RV.mkint _ _ _,zg3 hk⟩
   ·obtain⟨h0,hk⟩:=zv hk
    exact⟨_,_,by simp[hg,binOp,Op.intDiv,h0],RV.mkint _ _ _,hk⟩
   ·exact⟨_,_,by simp[hg,binOp,Op.intBits,zkn],RV.mkint _ _ _,hk⟩
   ·exact⟨_,_,by simp[hg,binOp,Op.intBits,zkn],RV.mkint _ _ _,hk⟩
   ·exact⟨_,_,by simp[hg,binOp,Op.intBits,zkn],RV.mkint _ _ _,hk⟩
   ·exact⟨_,_,by simp[hg,binOp,Op.intCmp],RV.mkbool _ _,hk⟩
   ·exact⟨_,_,by simp[hg,binOp,Op.intCmp],RV.mkbool _ _,hk⟩
   ·exact⟨_,_,by simp[hg,binOp,Op.intCmp],RV.mkbool _ _,hk⟩
   ·exact⟨_,_,by simp[hg,binOp,Op.intCmp],RV.mkbool _ _,hk⟩
   ·exact⟨_,_,by simp[hg,binOp,Op.intCmp],RV.mkbool _ _,hk⟩
   ·exact⟨_,_,by simp[hg,binOp,Op.intCmp],RV.mkbool _ _,hk⟩
   ·obtain⟨h0,hk2⟩:=zv hk
    have hm:min q.toNat k.bits=1:=by rw[h0];cases k<;>rfl
    have h1:¬q<0:=by omega
    exact⟨_,_,by simp[hg,binOp,Op.shift,hm,h1],RV.mkint _ _ _,hk2⟩
 ·rename_i p q r u
  obtain⟨hP1,hP2⟩:=hP ⟨_,rfl⟩
  obtain⟨vs,rfl,hl,hv⟩:=hx.agg_inv
  obtain⟨us,rfl,hl',hu⟩:=hy.agg_inv
  have:∃a b,vs=[a,b]:=by
   match vs,hl with | [a,b],_=>exact⟨a,b,rfl⟩
  obtain⟨a1,b1,rfl⟩:=this
  have:∃a b,us=[a,b]:=by
   match us,hl' with | [a,b],_=>exact⟨a,b,rfl⟩
  obtain⟨a2,b2,rfl⟩:=this
  have e1:=(hv 0 _ _ rfl rfl).int_inv
  have e2:=(hv 1 _ _ rfl rfl).int_inv
  have e3:=(hu 0 _ _ rfl rfl).int_inv
  have e4:=(hu 1 _ _ rfl rfl).int_inv
  subst e1 e2 e3 e4
  split at hk<;>try exact hk.elim
  ·exact⟨_,_,by simp[eqGuard,hP1,binOp,hP2],RV.mkbool _ _,hk⟩
  ·exact⟨_,_,by simp[eqGuard,hP1,binOp,hP2],RV.mkbool _ _,hk⟩
 ·split at hk
  ·rename_i b b' hb hb'
   have e1:=RV.bool?_inv hb hx
   have e2:=RV.bool?_inv hb' hy
   subst e1 e2
   have hu:=hT ⟨b,b',hb,hb'⟩
   have hg:∀op,(eqGuard op t ox oy (.bool b) (.bool b')).run P w=.ok () w:=by
    intro op;cases op<;>rfl
   have he:(Op.equal t (.bool b) (.bool b')).run P w=.ok (b==b') w:=by
    exact zox 9999 w hu b b'
   split at hk<;>try exact hk.elim
   ·exact⟨_,_,by simp[hg,binOp,he],RV.mkbool _ _,hk⟩
   ·refine⟨_,_,by simp[hg,binOp,he];rfl,?_,hk⟩
    cases b<;>cases b'<;>exact RV.mkbool _ _
  ·exact hk.elim
end Go.VL
namespace Go.VL
set_option linter.unusedVariables false
set_option linter.unusedSimpArgs false
def ztn:TypeDesc→Bool
 |.struct _=>true
 |.array _ _=>true
 |_=>false
def z9:Kd→Value
 |.nums k=>.int k 0
 |.bools=>.bool false
 |.prs=>.agg #[.int .i64 0,.int .i64 0]
 |.pgs=>.agg #[.slice none 0 0,.slice none 0 0,.slice none 0 0]
 |.lks=>.agg #[.slice none 0 0,.int .i64 0,.int .i64 0]
 |.ops=>.agg #[.int .i64 0,.int .i64 0,.int .i64 0]
 |.numss=>.slice none 0 0
 |.prss=>.slice none 0 0
def zy (P:Program) (t n:Nat):Prop:=(P.info? t).map (·.size)=some n
def zai (P:Program) (t:Nat) (z:Value):Prop:=(P.info? t).bind (·.zero)=some z
def zap (P:Program) (t:Nat) (b:Bool):Prop:=(P.underlying t).map ztn=some b
def zjs (P:Program):List Field→List (Nat×Nat×Bool)→Prop
 |[],[]=>True
 |f::fs,(off,sz,ag)::xs=>f.offset=off∧zy P f.type sz∧0<sz∧zap P f.type ag∧(ag=false→sz=1)∧zjs P fs xs
 |_,_=>False
def zb4 (P:Program) (t:Nat):TI→Prop
 |.bad=>True
 |.prim z=>zap P t false∧zy P t 1∧(∃z0:Value,zai P t z0∧zil z0=z∧z0.cells=#[z0]) ∧
   (∀k m,z=.c (.int k m)→P.underlying t=some (.int k))∧(z=.ff→P.underlying t=some TypeDesc.bool)
 |.slice e sz bytes kd=>P.underlying t=some (.slice e)∧zy P t 1∧zai P t (.slice none 0 0) ∧
   (P.info? e).map (fun i=>(i.size,i.bytes))=some (sz,bytes)∧zai P e (z9 kd)∧kd.empty.stride=sz∧1≤bytes∧bytes≤4096
 |.struct fs zs=>(∃fields:Array Field,P.underlying t=some (.struct fields)∧zjs P fields.toList fs)∧zy P t zs.length ∧
   (∃cells:List Value,zai P t (.agg cells.toArray)∧cells.map zil=zs)∧zs.length≠0
 |.arr n e kd=>P.underlying t=some (.array n e)∧zy P e 1∧zap P e false∧kd.empty.stride=1∧zy P t n ∧
   zai P t (.agg (List.replicate n (z9 kd)).toArray)∧(z9 kd).cells=#[z9 kd]∧n≠0
 |.boxb fs pre n post=>(∃fields:Array Field,P.underlying t=some (.struct fields)∧zjs P fields.toList fs)∧zy P t (pre.length+n+post.length) ∧
   (∃c1 c2:List Value,zai P t (.agg (c1++List.replicate n (Value.bool false)++c2).toArray)∧c1.map zil=pre∧c2.map zil=post)∧pre.length+n+post.length≠0
def TOk (P:Program) (T:TT):Prop:=∀t,zb4 P t (T t)
section
variable {P : Program} {T : TT} {X : Cx} {I : Nat → Prop} {g : Gam} {s : S} {a : Act} {w : World} {o : Oper} {K : S → Prop}
 {N:Act→World→Prop} {Q:Exit→Act→World→Prop}
theorem run_sizeOf' {t n:Nat} (h:zy P t n) (w:World):(sizeOf t).run P w=.ok n w:=by
 unfold zy at h
 cases hi:P.info? t with
 |none=>rw[hi]at h;cases h
 |some i=>rw[hi]at h;simp at h;simp[sizeOf,typeInfo,hi,h]
theorem run_zero' {t:Nat} {z:Value} (h:zai P t z) (w:World):(zeroValue t).run P w=.ok z w:=by
 unfold zai at h
 cases hi:P.info? t with
 |none=>rw[hi]at h;cases h
 |some i=>rw[hi]at h;simp at h;simp[zeroValue,typeInfo,hi,h]
theorem run_isAgg' {t:Nat} {b:Bool} (h:zap P t b) (w:World):(isAgg t).run P w=.ok b w:=by
 unfold zap at h
 cases hi:P.underlying t with
 |none=>rw[hi]at h;cases h
 |some d =>
  rw[hi]at h
  simp at h
  unfold isAgg
  rw[Sem.run_bind,run_underlying hi w]
  subst h
  cases d<;>rfl
theorem TI.facts {t:Nat} (hT:zb4 P t (T t)) (hb:T t≠.bad):zap P t (T t).isAgg∧zy P t (T t).size∧(T t).size≠0∧((T t).isAgg=false→(T t).size=1):=by
 cases h:T t with
 |bad=>exact(hb h).elim
 |prim z=>rw[h]at hT;exact⟨hT.1,hT.2.1,by simp[TI.size],fun _=>rfl⟩
 |slice e sz bytes kd=>rw[h]at hT;exact⟨by simp[zap,hT.1,ztn,TI.isAgg],hT.2.1,by simp[TI.size],fun _=>rfl⟩
 |struct fs zs=>rw[h]at hT;obtain⟨⟨f,hf,_⟩,h2,_,h4⟩:=hT;exact⟨by simp[zap,hf,ztn,TI.isAgg],h2,by simpa [TI.size]using h4,fun h=>by cases h⟩
 |arr n e kd=>rw[h]at hT;exact⟨by simp[zap,hT.1,ztn,TI.isAgg],hT.2.2.2.2.1,by simpa [TI.size]using hT.2.2.2.2.2.2.2,fun h=>by cases h⟩
 |boxb fs pre n post=>rw[h]at hT;obtain⟨⟨f,hf,_⟩,h2,_,h4⟩:=hT;exact⟨by simp[zap,hf,ztn,TI.isAgg],h2,by simpa [TI.size]using h4,fun h=>by cases h⟩
def zb0 (I:Nat→Prop) (g:Gam) (n:Nat) (w:World) (b off:Nat) (row:List V):Prop :=
 ∀(j:Nat) x,row[j]? = some x→∃v,w.cell? ⟨b,off+j,none⟩=some v∧RV I g n w x v
theorem zb0.drop {n b off:Nat} {row:List V} (h:zb0 I g n w b off row) (k:Nat):zb0 I g n w b (off+k) (row.drop k):=fun j x hj=>by
 rw[List.getElem?_drop]at hj
 obtain⟨v,h1,h2⟩:=h (k+j) x hj
 exact⟨v,by rw[Nat.add_assoc];exact h1,h2⟩
theorem zb0.take {n b off:Nat} {row:List V} (h:zb0 I g n w b off row) (k:Nat):zb0 I g n w b off (row.take k):=fun j x hj=>by
 rw[List.getElem?_take]at hj
 split at hj
 ·exact h j x hj
 ·cases hj
theorem zed (b off j:Nat):(⟨b,off,none⟩:Addr).add j=⟨b,off+j,none⟩:=by
 unfold Addr.add
 split
 ·rename_i h;subst h;rfl
 ·rfl
theorem zb0.values {n b off:Nat} {row:List V} (h:zb0 I g n w b off row):∃vs:List Value,vs.length=row.length ∧
  (∀(j:Nat) v,vs[j]? = some v→w.cell? ⟨b,off+j,none⟩=some v)∧∀(j:Nat) x v,row[j]? = some x→vs[j]? = some v→RV I g n w x v:=by
 induction row generalizing off with
 |nil=>exact⟨[],rfl,by simp,by simp⟩
 |cons x t ih =>
  obtain⟨v,h1,h2⟩:=h 0 x rfl
  obtain⟨vs,hl,hv,hr⟩:=ih (off:=off+1) (by have:=h.drop 1;simpa using this)
  refine⟨v::vs,by simp[hl],fun j u hj=>?_,fun j y u hj hu=>?_⟩
  ·cases j with
   |zero=>cases hj;exact h1
   |succ j=>have:=hv j u (by simpa using hj);rw[Nat.add_assoc,Nat.add_comm 1 j]at this;exact this
  ·cases j with
   |zero=>cases hj;cases hu;exact h2
   |succ j=>exact hr j y u (by simpa using hj) (by simpa using hu)
theorem zh8 {t:Nat} {ti:TI} (ha:zap P t true) (hs:zy P t ti.size) {n b off:Nat} {row:List V} (h:zb0 I g n w b off row) (hl:row.length=ti.size) :
  ∃vs:List Value,(Instr.loadAt t (.pointer (some ⟨b,off,none⟩))).run P w=.ok (.agg vs.toArray) w∧RV I g n w (.agg row) (.agg vs.toArray):=by
 obtain⟨vs,hvl,hv,hr⟩:=h.values
 refine⟨vs,?_,.agg row vs hvl.symm hr⟩
 have hl2:(loadCells ⟨b,off,none⟩ vs.length).run P w=.ok vs.toArray w:=run_loadCells_list (P:=P) w _ vs fun j v hj=>by rw[zed];exact hv j v hj
 rw[hvl,hl]at hl2
 simp[Instr.loadAt,Instr.sureAddr,loadVar,run_isAgg' ha,run_sizeOf' hs,hl2]
theorem zgh {t:Nat} (ha:zap P t false) {b off:Nat} {v:Value} (h:w.cell? ⟨b,off,none⟩=some v) :
  (Instr.loadAt t (.pointer (some ⟨b,off,none⟩))).run P w=.ok v w:=by
 simp[Instr.loadAt,Instr.sureAddr,loadVar,run_isAgg' ha,h]
theorem zbt (row:List C) (j:Nat):(zc0 row)[j]? = (row[j]?).map V.c:=by
 induction row generalizing j with
 |nil=>simp[zc0]
 |cons x t ih=>cases j with
  |zero=>simp[zc0]
  |succ j=>simpa [zc0]using ih j
theorem zev (row:List C):zc0 row=row.map V.c:=by
 apply List.ext_getElem?;intro j;simp[zbt]
theorem zb0.of_iptr {n:Nat} {row:List C} {v:Value} (h:RV I g n w (.iptr row) v):∃b off,v=.pointer (some ⟨b,off,none⟩)∧I b∧zb0 I g n w b off (zc0 row):=by
 cases h with
 |iptr _ b off val hI hc hr =>
  refine⟨b,off,rfl,hI,fun j x hx=>?_⟩
  rw[zbt]at hx
  cases hj:row[j]? with
  |none=>rw[hj]at hx;cases hx
  |some y=>rw[hj]at hx;cases hx;exact⟨_,hc j y hj,.c _ _ (hr j y hj)⟩
theorem zb0.of_arr {n id i:Nat} {x:C} {b:Nat} {cl:Nat×Nat} (h:RO I g n w id (.arr x)) (hg:g id=some (b,cl)) (hi:i<x.len) :
  zb0 I g n w b (i*x.stride) (zc0 (x.row i)):=by
 cases h with
 |none _ hg'=>rw[hg]at hg';cases hg'
 |arr _ b' cap cells ty hg' hs hb hl hcap h =>
  rw[hg]at hg'
  cases hg'
  intro j y hy
  rw[zbt]at hy
  cases hj:(x.row i)[j]? with
  |none=>rw[hj]at hy;cases hy
  |some z =>
   rw[hj]at hy;cases hy
   obtain⟨v,h1,h2⟩:=h i j z hi hj
   refine⟨v,?_,.c _ _ h2⟩
   rw[cell_of_row w b _ cells.toArray ty (0,0) hb]
   simpa using h1
theorem zb0.of_box {n id:Nat} {pre post:List V} {bs:List Bool} {b:Nat} {cl:Nat×Nat} (h:RO I g n w id (.box pre bs post)) (hg:g id=some (b,cl)) :
  zb0 I g n w b 0 (pre++(bs.map fun x=>V.c (C.bool x))++post):=by
 cases h with
 |box _ _ _ b' cl' cells ty hg' hb hl h1 h2 h3 =>
  rw[hg]at hg';cases hg'
  intro j x hx
  have hj:j<cells.length:=by
   rw[hl]
   have:=(List.getElem?_eq_some_iff.1 hx).1
   simp only[List.length_append,List.length_map]at this;exact this
  refine⟨cells[j],by rw[cell_of_row w b _ cells.toArray ty (0,0) hb];simp[hj],?_⟩
  have hcj:cells[j]? = some cells[j]:=List.getElem?_eq_getElem hj
  by_cases c1:j<pre.length
  ·rw[List.append_assoc,List.getElem?_append_left c1]at hx
   exact h1 j x _ hx hcj
  ·by_cases c2:j<pre.length+bs.length
   ·rw[List.append_assoc,List.getElem?_append_right (by omega),List.getElem?_append_left (by simp;omega)]at hx
    simp only[List.getElem?_map,Option.map_eq_some_iff]at hx
    obtain⟨y,hy,rfl⟩:=hx
    have:=h2 (j-pre.length) y hy
    rw[show pre.length+(j-pre.length)=j from by omega,hcj]at this
    rw[Option.some.inj this]
    exact RV.mkbool _ _
   ·rw[List.getElem?_append_right (by simp;omega)]at hx
    simp only[List.length_append,List.length_map]at hx
    have:=h3 (j-(pre.length+bs.length)) x cells[j] hx (by rw[show pre.length+bs.length+(j-(pre.length+bs.length))=j from by omega];exact hcj)
    exact this
theorem zfa {i hi st cap len j:Nat} (h:i<len) (hc:len≤cap) (hj:j<st):i*st+j<cap*st:=by
 have:(i+1)*st≤cap*st:=Nat.mul_le_mul_right _ (by omega)
 rw[Nat.add_mul,Nat.one_mul]at this;omega
theorem zb0.of_hol {n id hi:Nat} {x:C} {vs:List V} {b:Nat} {cl:Nat×Nat} (h:RO I g n w id (.hol x hi vs)) (hg:g id=some (b,cl)) :
  zb0 I g n w b (hi*x.stride) vs∧∀i,i<x.len→i≠hi→zb0 I g n w b (i*x.stride) (zc0 (x.row i)):=by
 cases h with
 |hol _ _ _ b' cap cells ty hg' hs hb hl hcap hhi hv h h2 =>
  rw[hg]at hg'
  cases hg'
  refine⟨fun j u hj=>?_,fun i hi hne j y hy=>?_⟩
  ·obtain⟨u',v,a1,a2,a3,a4⟩:=h2 j (by rw[←hv];exact(List.getElem?_eq_some_iff.1 hj).1)
   rw[hj]at a1;cases a1
   exact⟨v,by rw[cell_of_row w b _ cells.toArray ty (0,0) hb];simpa using a2,a4⟩
  ·rw[zbt]at hy
   cases hj:(x.row i)[j]? with
   |none=>rw[hj]at hy;cases hy
   |some z =>
    rw[hj]at hy;cases hy
    obtain⟨v,h1,h2⟩:=h i j z hi hne hj
    refine⟨v,?_,.c _ _ h2⟩
    rw[cell_of_row w b _ cells.toArray ty (0,0) hb]
    simpa using h1
theorem zhd {hs:List (Nat×List V)} {i:Nat} {us:List V} (h:(i,us)∈hs):i∈zx hs:=List.mem_map.2 ⟨_,h,rfl⟩
def mcell (c:C):V:=match c with|.int k n=>.c (.int k n)|.bool b=>.c (.bool b)|_=>.any
theorem z27 (row:List C):zoo row=row.map mcell:=by
 induction row with
 |nil=>rfl
 |cons c t ih=>cases c<;>simp[zoo,mcell,ih]
theorem NC.mcell {n:Nat} {c:C} {v:Value} (h:NC w c v):RV I g n w (mcell c) v:=by
 cases h with
 |int k m=>exact .c _ _ (.int k m)
 |bool b=>exact .c _ _ (.bool b)
 |nil k=>exact .any _
 |sl=>exact .any _
theorem zb0.of_deep {n id f:Nat} {p:Bool} {x:C} {hs:List (Nat×List V)} {b:Nat} {cl:Nat×Nat} (h:RO I g n w id (.deep p f x hs)) (hg:g id=some (b,cl)) :
  (∀i us,(i,us)∈hs→zb0 I g n w b (i*x.stride) us)∧∀i,f≤i→i<x.len→i∉zx hs→zb0 I g n w b (i*x.stride) (zoo (x.row i)):=by
 cases h with
 |deep0 _ _ _ hg'=>rw[hg]at hg';cases hg'
 |deep _ _ _ _ b' cap cells ty hg' hsl hb hl hcap hh hkn h h2 hd ht =>
  rw[hg]at hg'
  cases hg'
  refine⟨fun i us hm j u hj=>?_,fun i hf hi hne j y hy=>?_⟩
  ·obtain⟨u',v,a1,a2,a3,a4⟩:=h2 i us hm j (by rw[←(hh i us hm).2];exact(List.getElem?_eq_some_iff.1 hj).1)
   rw[hj]at a1;cases a1
   exact⟨v,by rw[cell_of_row w b _ cells.toArray ty (0,0) hb];simpa using a2,a4⟩
  ·rw[z27,List.getElem?_map]at hy
   cases hj:(x.row i)[j]? with
   |none=>rw[hj]at hy;cases hy
   |some z =>
    rw[hj]at hy;cases hy
    obtain⟨v,h1,h2⟩:=h i j z hf hi hne hj
    exact⟨v,by rw[cell_of_row w b _ cells.toArray ty (0,0) hb];simpa using h1,h2.mcell⟩
theorem zgt {c A B:Prop} (h:vor c A B):(c∧A)∨(¬c∧B):=by unfold vor at h;exact h
theorem zi0 {i:Nat} {A:List (Nat×List V)→Nat→List V→List (Nat×List V)→Prop} {B:Prop}:∀{hs pre:List (Nat×List V)},zfp i pre hs A B →
  (∃p1 us t,hs=p1++(i,us)::t∧A (pre++p1) i us t)∨(i∉zx hs∧B):=by
 intro hs
 induction hs with
 |nil=>intro pre h;exact .inr ⟨by simp[zx],h⟩
 |cons x t ih =>
  obtain⟨hi,us⟩:=x
  intro pre h
  simp only[zfp]at h
  rcases zgt h with ⟨rfl,h⟩|⟨hne,h⟩
  ·exact .inl ⟨[],us,t,rfl,by simpa using h⟩
  ·rcases ih h with ⟨p1,us',t',e,h⟩|⟨h1,h2⟩
   ·exact .inl ⟨(hi,us)::p1,us',t',by rw[e];rfl,by simpa using h⟩
   ·exact .inr ⟨by simp only[zx,List.map_cons,List.mem_cons,not_or];exact⟨hne,h1⟩,h2⟩
theorem znb {KV:V→Prop} (hT:TOk P T) (h:HOk I g s.nx w s.hp) {t:Nat} {x:V} {v:Value} (hv:RV I g s.nx w x v) (hk:zdw T (zq s.hp) t x KV) :
  ∃y val,(Instr.loadAt t v).run P w=.ok val w∧RV I g s.nx w y val∧KV y:=by
 have hb:T t≠.bad:=fun h=>by simp[zdw,h,TI.ok]at hk
 have hok:(T t).ok=true:=by cases h:T t<;>first|rfl|exact(hb h).elim
 obtain⟨f1,f2,f3,f4⟩:=TI.facts (hT t) hb
 have krow:∀(b off:Nat) (row:List C),zb0 I g s.nx w b off (zc0 row)→ze6 (T t) row KV→∃y val,(Instr.loadAt t (.pointer (some ⟨b,off,none⟩))).run P w=.ok val w∧RV I g s.nx w y val∧KV y:=by
  intro b off row hr hk
  unfold ze6 at hk
  split at hk
  ·rename_i ha
   split at hk
   ·rename_i hle
    have hle:=Nat.le_of_ble_eq_true hle
    rw[ha]at f1
    have hr2:=hr.take (T t).size
    have e:(zc0 row).take (T t).size=zc0 (row.take (T t).size):=by rw[zev,zev,List.map_take]
    rw[e]at hr2
    obtain⟨vs,h1,h2⟩:=zh8 (ti:=T t) f1 f2 hr2 (by simp[zev];omega)
    exact⟨_,_,h1,h2,hk⟩
   ·exact hk.elim
  ·rename_i ha
   rw[ha]at f1
   split at hk
   ·rename_i x _
    obtain⟨v,h1,h2⟩:=hr 0 (.c x) (by simp[zc0])
    exact⟨_,_,zgh f1 (by simpa using h1),h2,hk⟩
   ·exact hk.elim
 have kvs:∀(b off:Nat) (row:List V),zb0 I g s.nx w b off row→zfi (T t) row KV→∃y val,(Instr.loadAt t (.pointer (some ⟨b,off,none⟩))).run P w=.ok val w∧RV I g s.nx w y val∧KV y:=by
  intro b off row hr hk
  unfold zfi at hk
  split at hk
  ·rename_i ha
   split at hk
   ·rename_i hle
    have hle:=Nat.le_of_ble_eq_true hle
    rw[ha]at f1
    obtain⟨vs,h1,h2⟩:=zh8 (ti:=T t) f1 f2 (hr.take (T t).size) (by simp;omega)
    exact⟨_,_,h1,h2,hk⟩
   ·exact hk.elim
  ·rename_i ha
   rw[ha]at f1
   split at hk
   ·rename_i x _
    obtain⟨v,h1,h2⟩:=hr 0 x (by simp)
    rw[V.force_eq]at hk
    exact⟨_,_,zgh f1 (by simpa using h1),h2,hk⟩
   ·exact hk.elim
 unfold zdw at hk
 rw[hok]at hk
 dsimp only at hk
 split at hk
 ·obtain⟨b,off,rfl,_,hr⟩:=zb0.of_iptr hv
  exact krow b off _ hr hk
 ·rename_i id i st j
  cases hv with
  |ptr _ _ _ _ b cl hn hg =>
   split at hk
   ·rename_i x hl
    obtain⟨⟨hi,rfl⟩,hk2⟩:=zv hk
    have hr:=(zb0.of_arr (h.obj id _ (zt hl)).2 hg hi).drop j
    rw[zev,←List.map_drop,←zev]at hr
    exact krow b _ _ hr hk2
   ·rename_i x hi vs hl
    obtain⟨⟨hi',rfl⟩,hk2⟩:=zv hk
    obtain⟨q1,q2⟩:=zb0.of_hol (h.obj id _ (zt hl)).2 hg
    rcases zgt hk2 with ⟨rfl,hk3⟩|⟨hne,hk3⟩
    ·exact kvs b _ _ (q1.drop j) hk3
    ·have hr:=(q2 i hi' hne).drop j
     rw[zev,←List.map_drop,←zev]at hr
     exact krow b _ _ hr hk3
   ·rename_i p f x hs hl
    obtain⟨⟨hi',rfl⟩,hk2⟩:=zv hk
    obtain⟨q1,q2⟩:=zb0.of_deep (h.obj id _ (zt hl)).2 hg
    rcases zi0 hk2 with ⟨p1,us,t1,rfl,hk3⟩|⟨hne,hk3⟩
    ·exact kvs b _ _ ((q1 i us (by simp)).drop j) hk3
    ·obtain⟨hf,hk4⟩:=zv hk3
     exact kvs b _ _ ((q2 i hf hi' hne).drop j) hk4
   ·rename_i pre bs post hl
    have hr:=zb0.of_box (h.obj id _ (zt hl)).2 hg
    split at hk
    ·rename_i hst
     have hst:=Nat.eq_of_beq_eq_true hst
     subst hst
     have hz:i*0+j=j:=by simp
     rw[hz]
     have hr0:=hr.drop j
     rw[Nat.zero_add]at hr0
     split at hk
     ·rename_i ha
      rw[ha]at f1
      split at hk
      ·split at hk
       ·rename_i hle
        have hle:=Nat.le_of_ble_eq_true hle
        have hr2:=hr0.take (T t).size
        simp only[List.map_nil,List.append_nil]at hr2
        obtain⟨vs,h1,h2⟩:=zh8 (ti:=T t) f1 f2 hr2 (by simp at hle⊢;omega)
        exact⟨_,_,h1,h2,hk⟩
       ·exact hk.elim
      ·split at hk
       ·rename_i hle
        have hle:=Nat.le_of_ble_eq_true hle
        have hr2:=hr0.take (T t).size
        have e:List.take (T t).size (List.drop j (pre++List.map (fun x=>V.c (C.bool x)) bs++post))=List.take (T t).size (List.drop j pre):=by
         rw[List.append_assoc,List.drop_append_of_le_length (by omega),List.take_append_of_le_length (by simp;omega)]
        rw[e]at hr2
        obtain⟨vs,h1,h2⟩:=zh8 (ti:=T t) f1 f2 hr2 (by simp;omega)
        exact⟨_,_,h1,h2,hk⟩
       ·exact hk.elim
     ·rename_i ha
      rw[ha]at f1
      have hnth:∀(l:List V) (k:Nat) (v:V),zmi l k=some v→l[k]? = some v:=by
       intro l
       induction l with
       |nil=>intro k v h;cases h
       |cons y l ih=>intro k v h;cases k with
        |zero=>exact h
        |succ k=>simpa using ih k v h
      split at hk
      ·rename_i v hv
       rw[V.force_eq]at hk
       have hv:=hnth _ _ _ hv
       obtain⟨u,h1,h2⟩:=hr j v (by rw[List.append_assoc,List.getElem?_append_left (List.getElem?_eq_some_iff.1 hv).1];exact hv)
       exact⟨_,_,zgh f1 (by simpa using h1),h2,hk⟩
      ·split at hk
       ·rename_i v hv
        split at hk
        ·rename_i hle
         have hle:=Nat.le_of_ble_eq_true hle
         rw[V.force_eq]at hk
         have hv:=hnth _ _ _ hv
         obtain⟨u,h1,h2⟩:=hr j v (by
          rw[List.getElem?_append_right (by simp;omega)]
          simp only[List.length_append,List.length_map]
          rw[show j-(pre.length+bs.length)=j-pre.length-bs.length from by omega];exact hv)
         exact⟨_,_,zgh f1 (by simpa using h1),h2,hk⟩
        ·exact hk.elim
       ·exact hk.elim
    ·split at hk
     ·exact hk.elim
     ·rename_i ha
      rw[ha]at f1
      obtain⟨⟨rfl,rfl,hi⟩,hk2⟩:=zv hk
      obtain⟨u,h1,h2⟩:=hr (pre.length+i) (.c (.bool (bs.getD i false))) (by
       rw[List.append_assoc,List.getElem?_append_right (by omega),List.getElem?_append_left (by simp;omega)]
       simp[hi])
      exact⟨_,_,zgh f1 (by rw[Nat.mul_one,Nat.add_comm i];simpa using h1),h2,hk2⟩
   ·exact hk.elim
 ·exact hk.elim
end
end Go.VL
namespace Go.VL
set_option linter.unusedVariables false
set_option linter.unusedSimpArgs false
section
variable {P : Program} {T : TT} {X : Cx} {I : Nat → Prop} {g : Gam} {s : S} {a : Act} {w : World} {o : Oper} {K : S → Prop}
 {N:Act→World→Prop} {Q:Exit→Act→World→Prop}
theorem zv3 {op:UnOp} {x:V} {n:Nat} {vx:Value} {KV:V→Prop} (hx:RV I g n w x vx) (hk:vun op x KV) :
  ∃y val,(Op.unary op vx).run P w=.ok val w∧RV I g n w y val∧KV y:=by
 unfold vun at hk
 split at hk
 ·split at hk
  ·rw[hx.tt_inv];exact⟨_,_,by simp[Op.unary],.ff,hk⟩
  ·rw[hx.ff_inv];exact⟨_,_,by simp[Op.unary],.tt,hk⟩
  ·rw[hx.bool_inv];exact⟨_,_,by simp[Op.unary],RV.mkbool _ _,hk⟩
  ·exact hk.elim
 ·split at hk
  ·rename_i k m;rw[hx.int_inv];exact⟨.c (.int k (k.wrap (0-m))),.int k (k.wrap (0-m)),by simp[Op.unary,Op.intArith],RV.mkint _ _ _,zg3 hk⟩
  ·exact hk.elim
 ·exact hk.elim
theorem zrd (hT:TOk P T) {src d:Nat} {x:V} {n:Nat} {vx:Value} {KV:V→Prop} (hx:RV I g n w x vx) (hk:zj3 T d x KV) (hsrc:∃i,P.underlying src=some (TypeDesc.int i)) :
  ∃y val,(convert src d vx).run P w=.ok val w∧RV I g n w y val∧KV y:=by
 unfold zj3 at hk
 split at hk
 ·rename_i k z j m hd
  have h:=hT d
  rw[hd]at h
  have hu:=h.2.2.2.1 k z rfl
  obtain⟨i,hi⟩:=hsrc
  rw[hx.int_inv]
  exact⟨_,_,by simp[convert,run_underlying hi,run_underlying hu,Conv.intToInt],RV.mkint _ _ _,zg3 hk⟩
 ·exact hk.elim
theorem znt {isMax:Bool} {xs:List V} {n:Nat} {vs:List Value} {ts:Array TypeId} {t:TypeId} {KV:V→Prop} (hl:xs.length=vs.length)
  (hx:∀(i:Nat) x v,xs[i]? = some x→vs[i]? = some v→RV I g n w x v) (hk:vmm isMax xs KV) :
  ∃y val,(if isMax then Builtin.max_ ts t vs.toArray else Builtin.min_ ts t vs.toArray).run P w=.ok val w∧RV I g n w y val∧KV y:=by
 unfold vmm at hk
 split at hk
 ·rename_i k p k' q
  match vs,hl with
  |[v1,v2],_ =>
   have e1:=(hx 0 _ _ rfl rfl).int_inv
   have e2:=(hx 1 _ _ rfl rfl).int_inv
   subst e1 e2
   split at hk
   ·rename_i hs
    have:=zju hs
    subst this
    split at hk
    ·exact⟨_,_,by simp[Builtin.max_,Builtin.max2],RV.mkint _ _ _,hk⟩
    ·exact⟨_,_,by simp[Builtin.min_,Builtin.min2],RV.mkint _ _ _,hk⟩
   ·exact hk.elim
 ·exact hk.elim
theorem RC.slice_inv {x:C} {v:Value} (h:RC I w x v) (hs:x.isSl=true):∃a cap,v=.slice a x.len cap∧x.len≤cap∧(x.len=0∨∃b off,a=some ⟨b,off,none⟩∧I b ∧
  ∀i,i<x.len→∀n g,zb0 I g n w b (off+i*x.stride) (zc0 (x.row i))):=by
 cases h with
 |int=>cases hs
 |bool=>cases hs
 |empty _ a cap _ h0=>exact⟨a,cap,by rw[h0],by omega,.inl h0⟩
 |sl _ b off cap val _ hI hcap hc hr =>
  refine⟨_,cap,rfl,hcap,.inr ⟨b,off,rfl,hI,fun i hi n g j y hy=>?_⟩⟩
  rw[zbt]at hy
  cases hj:(x.row i)[j]? with
  |none=>rw[hj]at hy;cases hy
  |some z=>rw[hj]at hy;cases hy;exact⟨_,hc i j z hi hj,.c _ _ (hr i j z hi hj)⟩
theorem RC.of_rows {x:C} (hs:x.isSl=true) {b off cap:Nat} (hI:I b) (hcap:x.len≤cap)
  (h:∀i,i<x.len→zb0 I (fun _=>none) 0 w b (off+i*x.stride) (zc0 (x.row i))):RC I w x (.slice (some ⟨b,off,none⟩) x.len cap):=by
 have hval:∀i j:Nat,∃v:Value,∀z,i<x.len→(x.row i)[j]? = some z→w.cell? ⟨b,off+i*x.stride+j,none⟩=some v∧RC I w z v:=by
  intro i j
  by_cases hi:i<x.len
  ·cases hj:(x.row i)[j]? with
   |none=>exact⟨undef,fun z _ hz=>by cases hz⟩
   |some z =>
    obtain⟨v,h1,h2⟩:=h i hi j (.c z) (by rw[zbt,hj];rfl)
    cases h2 with
    |c _ _ h2=>exact⟨v,fun z' _ hz=>by cases hz;exact⟨h1,h2⟩⟩
  ·exact⟨undef,fun z hi' _=>(hi hi').elim⟩
 exact .sl x b off cap (fun i j=>(hval i j).choose) hs hI hcap (fun i j z hi hz=>((hval i j).choose_spec z hi hz).1) (fun i j z hi hz=>((hval i j).choose_spec z hi hz).2)
theorem zh0 {ts:Array TypeId} {t t0:TypeId} {e:TypeId} (ht:ts[0]? = some t0) (hu:P.underlying t0=some (.slice e)) (b:Option Addr) (n c:Nat) :
  (Builtin.len_ ts t #[.slice b n c]).run P w=.ok (.int .i64 n) w:=by
 simp[Builtin.len_,ht,run_underlying hu,goInt]
theorem zsm {ts:Array TypeId} {t t0:TypeId} {e:TypeId} {x:V} {v:Value} {KV:V→Prop} (ht:ts[0]? = some t0) (hu:P.underlying t0=some (.slice e))
  (hh:HOk I g s.nx w s.hp) (hv:RV I g s.nx w x v) (hk:ziq (zq s.hp) x KV):∃y val,(Builtin.len_ ts t #[v]).run P w=.ok val w∧RV I g s.nx w y val∧KV y:=by
 unfold ziq at hk
 split at hk
 ·cases hv;exact⟨_,_,zh0 ht hu _ _ _,RV.mkint _ _ _,hk⟩
 ·split at hk
  ·rename_i l hs
   cases hv with|c _ _ hv =>
   obtain⟨a,cap,rfl,_⟩:=hv.slice_inv hs
   exact⟨_,_,zh0 ht hu _ _ _,RV.mkint _ _ _,hk⟩
  ·exact hk.elim
 ·rename_i id
  split at hk
  ·rename_i l hl
   have ho:=(hh.obj id _ (zt hl)).2
   cases hv with
   |slc _ len b cap hn hg =>
    cases ho with
    |none _ hg'=>rw[hg]at hg';cases hg'
    |arr _ b' cap' cells ty hg'=>rw[hg]at hg';cases hg';exact⟨_,_,zh0 ht hu _ _ _,RV.mkint _ _ _,hk⟩
   |slc0 _ hn hg =>
    cases ho with
    |none _ hg' hs h0=>rw[h0]at hk;exact⟨_,_,zh0 ht hu _ _ _,RV.mkint _ _ _,hk⟩
    |arr _ b' cap' cells ty hg'=>rw[hg]at hg';cases hg'
  ·rename_i l hi us hl
   have ho:=(hh.obj id _ (zt hl)).2
   cases ho with
   |hol _ _ _ b' cap' cells ty hg' =>
   cases hv with
   |slc _ len b cap hn hg=>rw[hg]at hg';cases hg';exact⟨_,_,zh0 ht hu _ _ _,RV.mkint _ _ _,hk⟩
   |slc0 _ hn hg=>rw[hg]at hg';cases hg'
  ·rename_i q f l hs hl
   have ho:=(hh.obj id _ (zt hl)).2
   cases hv with
   |slc _ len b cap hn hg =>
    cases ho with
    |deep0 _ _ _ hg'=>rw[hg]at hg';cases hg'
    |deep _ _ _ _ b' cap' cells ty hg'=>rw[hg]at hg';cases hg';exact⟨_,_,zh0 ht hu _ _ _,RV.mkint _ _ _,hk⟩
   |slc0 _ hn hg =>
    cases ho with
    |deep0 _ _ _ hg' hs h0=>rw[h0]at hk;exact⟨_,_,zh0 ht hu _ _ _,RV.mkint _ _ _,hk⟩
    |deep _ _ _ _ b' cap' cells ty hg'=>rw[hg]at hg';cases hg'
  ·exact hk.elim
 ·exact hk.elim
theorem zjf {fields:List Field} {fs:List (Nat×Nat×Bool)} (h:zjs P fields fs) {i:Nat} {x:Nat×Nat×Bool} (hx:fs[i]? = some x) :
  ∃f:Field,fields[i]? = some f∧f.offset=x.1∧zy P f.type x.2.1∧0<x.2.1∧zap P f.type x.2.2∧(x.2.2=false→x.2.1=1):=by
 induction fields generalizing fs i with
 |nil=>cases fs with
  |nil=>cases hx
  |cons y t=>exact h.elim
 |cons f fields ih=>cases fs with
  |nil=>exact h.elim
  |cons y t =>
   obtain⟨o1,o2,o3⟩:=y
   obtain⟨h1,h2,h3,h4,h5,h6⟩:=h
   cases i with
   |zero=>cases hx;exact⟨f,rfl,h1,h2,h3,h4,h5⟩
   |succ i=>exact ih h6 (by simpa using hx)
theorem zn0 {t:Nat} {fields:Array Field} (hu:P.underlying t=some (.struct fields)) {f:Nat} {fd:Field} (hf:fields[f]? = some fd) {sz:Nat} (hs:zy P fd.type sz) (h0:0<sz)
  (b off:Nat):(Instr.fieldAt t (.pointer (some ⟨b,off,none⟩)) f).run P w=.ok (.pointer (some ⟨b,off+fd.offset,none⟩)) w:=by
 have:sz≠0:=by omega
 simp[Instr.fieldAt,run_underlying hu,hf,Instr.sureAddr,fieldPlace,run_sizeOf' hs,this,zed]
theorem zk6 (hT:TOk P T) {t f:Nat} {x:V} {n:Nat} {v:Value} {KV:V→Prop} (hv:RV I g n w x v) (hk:zdc T t x f KV) :
  ∃y val,(Instr.fieldAt t v f).run P w=.ok val w∧RV I g n w y val∧KV y:=by
 unfold zdc at hk
 have hfd:∀z,(T t).field f=some z→∃(fields:Array Field) (fd:Field),P.underlying t=some (.struct fields)∧fields[f]? = some fd∧fd.offset=z.1∧∃sz,zy P fd.type sz∧0<sz:=by
  intro z hz
  have h:=hT t
  cases hti:T t with
  |struct fs zs =>
   rw[hti]at h hz
   obtain⟨⟨fields,hu,hok⟩,_⟩:=h
   obtain⟨fd,h1,h2,h3,h4,_⟩:=zjf hok (show fs[f]? = some z from hz)
   exact⟨fields,fd,hu,by simpa using h1,h2,_,h3,h4⟩
  |boxb fs pre m post =>
   rw[hti]at h hz
   obtain⟨⟨fields,hu,hok⟩,_⟩:=h
   obtain⟨fd,h1,h2,h3,h4,_⟩:=zjf hok (show fs[f]? = some z from hz)
   exact⟨fields,fd,hu,by simpa using h1,h2,_,h3,h4⟩
  |_=>rw[hti]at hz;cases hz
 split at hk
 ·rename_i off p q hz
  obtain⟨fields,fd,hu,hf,ho,sz,hs,h0⟩:=hfd _ hz
  simp only at ho
  split at hk
  ·rename_i row
   cases hv with
   |iptr _ b off' val hI hc hr =>
    refine⟨_,_,zn0 hu hf hs h0 b off',?_,hk⟩
    rw[ho]
    refine .iptr _ b (off'+off) (fun j=>val (off+j)) hI (fun j y hy=>?_) (fun j y hy=>?_)
    ·rw[List.getElem?_drop]at hy;rw[Nat.add_assoc];exact hc _ y hy
    ·rw[List.getElem?_drop]at hy;exact hr _ y hy
  ·rename_i id i st j
   cases hv with
   |ptr _ _ _ _ b cl hn hg =>
    refine⟨_,_,zn0 hu hf hs h0 b _,?_,hk⟩
    rw[ho,Nat.add_assoc]
    exact .ptr _ _ _ _ b cl hn hg
  ·exact hk.elim
 ·exact hk.elim
theorem zoy {l:List V} {k:Nat} {v:V} (h:zmi l k=some v):l[k]? = some v:=by
 induction l generalizing k with
 |nil=>cases h
 |cons y l ih=>cases k with
  |zero=>exact h
  |succ k=>simpa using ih h
theorem zpd (hT:TOk P T) {t f:Nat} {x:V} {n:Nat} {v:Value} {KV:V→Prop} (hv:RV I g n w x v) (hk:zhi T t x f KV) :
  ∃y val,(Instr.field t v f).run P w=.ok val w∧RV I g n w y val∧KV y:=by
 unfold zhi at hk
 split at hk
 ·rename_i fs zs hti
  have h:=hT t
  rw[hti]at h
  obtain⟨⟨fields,hu,hok⟩,_⟩:=h
  split at hk
  ·rename_i off sz ag hz
   obtain⟨fd,h1,h2,h3,h4,h5,h6⟩:=zjf hok hz
   simp only at h2 h3 h4 h5 h6
   have hf:fields[f]? = some fd:=by simpa using h1
   split at hk
   ·rename_i xs
    obtain⟨vs,rfl,hl,hr⟩:=hv.agg_inv
    split at hk
    ·split at hk
     ·split at hk
      ·rename_i hle
       have hle:=Nat.le_of_ble_eq_true hle
       refine⟨_,.agg ((vs.drop off).take sz).toArray,?_,.agg _ _ (by simp[hl]) (fun i x v hx hv=>?_),hk⟩
       ·simp only[Instr.field,Sem.run_bind,run_underlying hu,Result.andThen_ok,hf,asAgg,Sem.run_pure,part,run_isAgg' h5,if_true,run_sizeOf' h3,h2]
        congr 2
        apply Array.ext'
        simp
       ·rw[List.getElem?_take,List.getElem?_drop]at hx hv
        split at hx
        ·rename_i hlt;rw[if_pos hlt]at hv;exact hr _ _ _ hx hv
        ·cases hx
      ·exact hk.elim
     ·split at hk
      ·rename_i y hy
       rw[V.force_eq]at hk
       have hy:=zoy hy
       have hlt:off<vs.length:=by rw[←hl];exact(List.getElem?_eq_some_iff.1 hy).1
       refine⟨_,vs[off],?_,hr _ _ _ hy (List.getElem?_eq_getElem hlt),hk⟩
       simp[Instr.field,run_underlying hu,hf,asAgg,part,run_isAgg' h5,h2,hlt]
      ·exact hk.elim
    ·exact hk.elim
   ·exact hk.elim
  ·exact hk.elim
 ·exact hk.elim
theorem zf3 {t e sz:Nat} (hu:P.underlying t=some (.slice e)) (hs:zy P e sz) {k:IntKind} {i:Int} {b off len cap:Nat} (h0:0≤i) (h1:i<len) :
  (Instr.indexAt t (.slice (some ⟨b,off,none⟩) len cap) (.int k i)).run P w=.ok (.pointer (some ⟨b,off+i.toNat*sz,none⟩)) w:=by
 simp[Instr.indexAt,asIntOf,run_underlying hu,h0,h1,run_sizeOf' hs,zed]
theorem zkx (hT:TOk P T) (hh:HOk I g s.nx w s.hp) {t:Nat} {x ix:V} {v vi:Value} {KV:V→Prop} (hv:RV I g s.nx w x v) (hi:RV I g s.nx w ix vi)
  (hk:zb9 T (zq s.hp) t x ix KV):∃y val,(Instr.indexAt t v vi).run P w=.ok val w∧RV I g s.nx w y val∧KV y:=by
 unfold zb9 at hk
 split at hk
 ·rename_i k i
  rw[hi.int_inv]
  have h:=hT t
  split at hk
  ·rename_i e sz bytes kd hti
   rw[hti]at h
   obtain⟨hu,_,_,hinfo,_⟩:=h
   have hs:zy P e sz:=by
    unfold zy;cases hq:P.info? e with
    |none=>rw[hq]at hinfo;cases hinfo
    |some i=>rw[hq]at hinfo;simp at hinfo⊢;exact hinfo.1
   split at hk
   ·rename_i l
    split at hk
    ·rename_i hst
     have hst:=Nat.eq_of_beq_eq_true hst
     obtain⟨⟨hsl,h0,h1⟩,hk2⟩:=zv hk
     cases hv with|c _ _ hv =>
     obtain⟨a,cap,rfl,_,h3⟩:=hv.slice_inv hsl
     rcases h3 with h3|⟨b,off,rfl,hI,hrow⟩
     ·omega
     ·refine⟨_,_,zf3 hu hs h0 h1,?_,hk2⟩
      have hr:=hrow i.toNat (by omega) 0 (fun _=>none)
      rw[hst]at hr
      have hval:∀j:Nat,∃v:Value,∀z,(l.row i.toNat)[j]? = some z→w.cell? ⟨b,off+i.toNat*sz+j,none⟩=some v∧RC I w z v:=by
       intro j
       cases hj:(l.row i.toNat)[j]? with
       |none=>exact⟨undef,fun z hz=>by cases hz⟩
       |some z =>
        obtain⟨v,h1,h2⟩:=hr j (.c z) (by rw[zbt,hj];rfl)
        cases h2 with
        |c _ _ h2=>exact⟨v,fun z' hz=>by cases hz;exact⟨h1,h2⟩⟩
      exact .iptr _ b _ (fun j=>(hval j).choose) hI (fun j z hz=>((hval j).choose_spec z hz).1) (fun j z hz=>((hval j).choose_spec z hz).2)
    ·exact hk.elim
   ·rename_i id
    split at hk
    ·rename_i l hl
     split at hk
     ·rename_i hst
      have hst:=Nat.eq_of_beq_eq_true hst
      obtain⟨⟨h0,h1⟩,hk2⟩:=zv hk
      have ho:=(hh.obj id _ (zt hl)).2
      cases hv with
      |slc _ len b cap hn hg =>
       cases ho with
       |none _ hg'=>rw[hg]at hg';cases hg'
       |arr _ b' cap' cells ty hg' =>
        have e:=hg
        rw[hg']at e;cases e
        refine⟨_,_,zf3 hu hs h0 h1,?_,hk2⟩
        have:=RV.ptr (I:=I) (w:=w) id i.toNat sz 0 b _ hn hg
        simpa using this
      |slc0 _ hn hg =>
       cases ho with
       |none _ hg' hs' h0'=>omega
       |arr _ b' cap' cells ty hg'=>rw[hg]at hg';cases hg'
     ·exact hk.elim
    ·rename_i l hi us hl
     split at hk
     ·rename_i hst
      have hst:=Nat.eq_of_beq_eq_true hst
      obtain⟨⟨h0,h1⟩,hk2⟩:=zv hk
      have ho:=(hh.obj id _ (zt hl)).2
      cases ho with
      |hol _ _ _ b' cap' cells ty hg' =>
      cases hv with
      |slc _ len b cap hn hg =>
       have e:=hg
       rw[hg']at e;cases e
       refine⟨_,_,zf3 hu hs h0 h1,?_,hk2⟩
       have:=RV.ptr (I:=I) (w:=w) id i.toNat sz 0 _ _ hn hg
       simpa using this
      |slc0 _ hn hg=>rw[hg]at hg';cases hg'
     ·exact hk.elim
    ·rename_i q f l hs' hl
     split at hk
     ·rename_i hst
      have hst:=Nat.eq_of_beq_eq_true hst
      obtain⟨⟨h0,h1⟩,hk2⟩:=zv hk
      have ho:=(hh.obj id _ (zt hl)).2
      cases hv with
      |slc _ len b cap hn hg =>
       cases ho with
       |deep0 _ _ _ hg'=>rw[hg]at hg';cases hg'
       |deep _ _ _ _ b' cap' cells ty hg' =>
        have e:=hg
        rw[hg']at e;cases e
        refine⟨_,_,zf3 hu hs h0 h1,?_,hk2⟩
        have:=RV.ptr (I:=I) (w:=w) id i.toNat sz 0 b _ hn hg
        simpa using this
      |slc0 _ hn hg =>
       cases ho with
       |deep0 _ _ _ hg' hs' h0'=>omega
       |deep _ _ _ _ b' cap' cells ty hg'=>rw[hg]at hg';cases hg'
     ·exact hk.elim
    ·exact hk.elim
   ·exact hk.elim
  ·rename_i m e kd hti
   rw[hti]at h
   obtain⟨hu,hs,_,_,_,_,_,hm⟩:=h
   split at hk
   ·rename_i id st j
    obtain⟨⟨h0,h1⟩,hk2⟩:=zv hk
    cases hv with
    |ptr _ _ _ _ b cl hn hg =>
     refine⟨.ptr id i.toNat 1 j,.pointer (some ⟨b,i.toNat*1+j,none⟩),?_,.ptr _ _ _ _ b cl hn hg,hk2⟩
     simp[Instr.indexAt,asIntOf,run_underlying hu,Instr.sureAddr,h0,h1,run_sizeOf' hs,zed,Nat.add_comm]
   ·exact hk.elim
  ·exact hk.elim
 ·exact hk.elim
end
end Go.VL
