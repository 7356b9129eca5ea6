/- V-logic, part 1: pure cells, abstract values, symbolic heaps, and how they are represented in the model's memory. -/
import Derived.Calls
import Derived.Below
import Derived.Orders
import Derived.Laws.Cells
import Derived.Laws.Rows
import Derived.WalkKit
namespace Go.VL
set_option linter.unusedVariables false
set_option linter.unusedSimpArgs false

structure Pr where
  key : Int
  value : Int
structure Pg where
  keys : List Int
  kids : List Int
  vals : List Int
structure Lk where
  keys : List Int
  high : Int
  right : Int
structure Opn where
  kind : Int
  key : Int
  value : Int

/-- A pure cell: a number, a bool, or a whole immutable slice. -/
inductive C where
  | int (k : IntKind) (n : Int)
  | bool (b : Bool)
  | nums (k : IntKind) (xs : List Int)
  | bools (xs : List Bool)
  | prs (xs : List Pr)
  | pgs (xs : List Pg)
  | lks (xs : List Lk)
  | ops (xs : List Opn)
  | numss (xs : List (List Int))
  | prss (xs : List (List Pr))

def C.isSl : C → Bool
  | .int _ _ => false
  | .bool _ => false
  | _ => true

def C.len : C → Nat
  | .int _ _ => 0
  | .bool _ => 0
  | .nums _ xs => xs.length
  | .bools xs => xs.length
  | .prs xs => xs.length
  | .pgs xs => xs.length
  | .lks xs => xs.length
  | .ops xs => xs.length
  | .numss xs => xs.length
  | .prss xs => xs.length

def C.stride : C → Nat
  | .prs _ => 2
  | .pgs _ => 3
  | .lks _ => 3
  | .ops _ => 3
  | _ => 1

def Pr.row (p : Pr) : List C := [.int .i64 p.key, .int .i64 p.value]
def Pg.row (p : Pg) : List C := [.nums .i64 p.keys, .nums .i64 p.kids, .nums .i64 p.vals]
def Lk.row (p : Lk) : List C := [.nums .i64 p.keys, .int .i64 p.high, .int .i64 p.right]
def Opn.row (p : Opn) : List C := [.int .i64 p.kind, .int .i64 p.key, .int .i64 p.value]

/-- The cells of the i-th element. -/
def C.row : C → Nat → List C
  | .int _ _, _ => []
  | .bool _, _ => []
  | .nums k xs, i => [.int k (xs.getD i 0)]
  | .bools xs, i => [.bool (xs.getD i false)]
  | .prs xs, i => (xs.getD i ⟨0, 0⟩).row
  | .pgs xs, i => (xs.getD i ⟨[], [], []⟩).row
  | .lks xs, i => (xs.getD i ⟨[], 0, 0⟩).row
  | .ops xs, i => (xs.getD i ⟨0, 0, 0⟩).row
  | .numss xs, i => [.nums .i64 (xs.getD i [])]
  | .prss xs, i => [.prs (xs.getD i [])]

/-- In world w the value v is the pure cell c; all memory that it takes lies in blocks of I. -/
inductive RC (I : Nat → Prop) (w : World) : C → Value → Prop
  | int (k : IntKind) (n : Int) : RC I w (.int k n) (.int k n)
  | bool (b : Bool) : RC I w (.bool b) (.bool b)
  | empty (c : C) (a : Option Addr) (cap : Nat) (hs : c.isSl = true) (h0 : c.len = 0) : RC I w c (.slice a 0 cap)
  | sl (c : C) (b off cap : Nat) (val : Nat → Nat → Value) (hs : c.isSl = true) (hI : I b) (hcap : c.len ≤ cap)
      (hc : ∀ (i j : Nat) x, i < c.len → (c.row i)[j]? = some x → w.cell? ⟨b, off + i * c.stride + j, none⟩ = some (val i j))
      (hr : ∀ (i j : Nat) x, i < c.len → (c.row i)[j]? = some x → RC I w x (val i j)) :
      RC I w c (.slice (some ⟨b, off, none⟩) c.len cap)

/-- An abstract value. -/
inductive V where
  | any
  | tt
  | ff
  | nil
  | c (x : C)
  | agg (xs : List V)
  | tup (xs : List V)
  | iptr (row : List C)
  | ptr (id i st j : Nat)
  | slc (id : Nat)
  | fn (f : Nat) (caps : List V)

/-- Where an owned object lies: its block, how many elements it has room for, how many it has; none: a nil slice. -/
abbrev Gam := Nat → Option (Nat × Nat × Nat)

inductive RV (I : Nat → Prop) (g : Gam) (n : Nat) (w : World) : V → Value → Prop
  | any (v : Value) : RV I g n w .any v
  | tt : RV I g n w .tt (.bool true)
  | ff : RV I g n w .ff (.bool false)
  | nil : RV I g n w .nil (.slice none 0 0)
  | c (x : C) (v : Value) (h : RC I w x v) : RV I g n w (.c x) v
  | agg (xs : List V) (vs : List Value) (hl : xs.length = vs.length)
      (h : ∀ (i : Nat) x v, xs[i]? = some x → vs[i]? = some v → RV I g n w x v) : RV I g n w (.agg xs) (.agg vs.toArray)
  | tup (xs : List V) (vs : List Value) (hl : xs.length = vs.length)
      (h : ∀ (i : Nat) x v, xs[i]? = some x → vs[i]? = some v → RV I g n w x v) : RV I g n w (.tup xs) (.tuple vs.toArray)
  | iptr (row : List C) (b off : Nat) (val : Nat → Value) (hI : I b)
      (hc : ∀ (j : Nat) x, row[j]? = some x → w.cell? ⟨b, off + j, none⟩ = some (val j))
      (hr : ∀ (j : Nat) x, row[j]? = some x → RC I w x (val j)) : RV I g n w (.iptr row) (.pointer (some ⟨b, off, none⟩))
  | ptr (id i st j b : Nat) (cl : Nat × Nat) (hn : id < n) (hg : g id = some (b, cl)) : RV I g n w (.ptr id i st j) (.pointer (some ⟨b, i * st + j, none⟩))
  | slc (id len b cap : Nat) (hn : id < n) (hg : g id = some (b, cap, len)) : RV I g n w (.slc id) (.slice (some ⟨b, 0, none⟩) len cap)
  | slc0 (id : Nat) (hn : id < n) (hg : g id = none) : RV I g n w (.slc id) (.slice none 0 0)
  | fn (f : Nat) (xs : List V) (vs : List Value) (hl : xs.length = vs.length)
      (h : ∀ (i : Nat) x v, xs[i]? = some x → vs[i]? = some v → RV I g n w x v) : RV I g n w (.fn f xs) (.func (.func f) #[] vs.toArray)

/-- What an owned object holds. deep: an array whose elements' slices are its own too, but for elements below f, and for those of hs, which are told cell by cell; p: it keeps its place. box: a variable's cells (with an array of bools in the middle, mostly empty); arr: the array behind an owned slice;
    hol: the same, but that the cells of element hi are told one by one. -/
inductive O where
  | box (pre : List V) (bs : List Bool) (post : List V)
  | arr (x : C)
  | hol (x : C) (hi : Nat) (vs : List V)
  | deep (p : Bool) (f : Nat) (x : C) (hs : List (Nat × List V))

/-- what keeps its place -/
def O.isBox : O → Bool
  | .box .. => true
  | .arr _ => false
  | .hol _ _ _ => false
  | .deep p _ _ _ => p

/-- In world w the value v is the cell c, and the array behind it is nobody else's: nobody else may name it. -/
inductive NC (w : World) : C → Value → Prop
  | int (k : IntKind) (n : Int) : NC w (.int k n) (.int k n)
  | bool (b : Bool) : NC w (.bool b) (.bool b)
  | nil (k : IntKind) : NC w (.nums k []) (.slice none 0 0)
  | sl (k : IntKind) (xs : List Int) (b cap : Nat) (cells : List Value) (ty : TypeId) (hb : w.heap[b]? = some (.cells cells.toArray ty (0, 0))) (hl : cells.length = cap) (hc : xs.length ≤ cap)
      (h : ∀ (i : Nat) m, xs[i]? = some m → cells[i]? = some (.int k m)) : NC w (.nums k xs) (.slice (some ⟨b, 0, none⟩) xs.length cap)

/-- the cells of an array of which the elements below f and those of ks are not told -/
def Told (f : Nat) (x : C) (ks : List Nat) (k : Nat) : Prop := ∃ i j, k = i * x.stride + j ∧ j < x.stride ∧ f ≤ i ∧ i < x.len ∧ i ∉ ks

def keysHs (hs : List (Nat × List V)) : List Nat := hs.map (·.1)

/-- the value of a slice -/
def SlVal (v : Value) : Prop := ∃ a len cap, v = .slice a len cap
/-- an array of pages: all of its cells are slices -/
def C.isPg : C → Bool
  | .pgs _ => true
  | _ => false

inductive RO (I : Nat → Prop) (g : Gam) (n : Nat) (w : World) (id : Nat) : O → Prop
  | box (pre : List V) (bs : List Bool) (post : List V) (b : Nat) (cl : Nat × Nat) (cells : List Value) (ty : TypeId) (hg : g id = some (b, cl))
      (hb : w.heap[b]? = some (.cells cells.toArray ty (0, 0))) (hl : cells.length = pre.length + bs.length + post.length)
      (h1 : ∀ (i : Nat) x v, pre[i]? = some x → cells[i]? = some v → RV I g n w x v)
      (h2 : ∀ (i : Nat) x, bs[i]? = some x → cells[pre.length + i]? = some (.bool x))
      (h3 : ∀ (i : Nat) x v, post[i]? = some x → cells[pre.length + bs.length + i]? = some v → RV I g n w x v) : RO I g n w id (.box pre bs post)
  | none (x : C) (hg : g id = none) (hs : x.isSl = true) (h0 : x.len = 0) : RO I g n w id (.arr x)
  | arr (x : C) (b cap : Nat) (cells : List Value) (ty : TypeId) (hg : g id = some (b, cap, x.len)) (hs : x.isSl = true)
      (hb : w.heap[b]? = some (.cells cells.toArray ty (0, 0))) (hl : cells.length = cap * x.stride) (hcap : x.len ≤ cap)
      (h : ∀ (i j : Nat) y, i < x.len → (x.row i)[j]? = some y → ∃ v, cells[i * x.stride + j]? = some v ∧ RC I w y v)
      (ht : x.isPg = true → ∀ v ∈ cells, SlVal v) : RO I g n w id (.arr x)
  | hol (x : C) (hi : Nat) (vs : List V) (b cap : Nat) (cells : List Value) (ty : TypeId) (hg : g id = some (b, cap, x.len)) (hs : x.isSl = true)
      (hb : w.heap[b]? = some (.cells cells.toArray ty (0, 0))) (hl : cells.length = cap * x.stride) (hcap : x.len ≤ cap) (hhi : hi < x.len) (hv : vs.length = x.stride)
      (h : ∀ (i j : Nat) y, i < x.len → i ≠ hi → (x.row i)[j]? = some y → ∃ v, cells[i * x.stride + j]? = some v ∧ RC I w y v)
      (h2 : ∀ (j : Nat), j < x.stride → ∃ u v, vs[j]? = some u ∧ cells[hi * x.stride + j]? = some v ∧ v.oneCell' = true ∧ RV I g n w u v)
      (ht : x.isPg = true → ∀ v ∈ cells, SlVal v) : RO I g n w id (.hol x hi vs)
  | deep0 (p : Bool) (f : Nat) (x : C) (hg : g id = none) (hs : x.isSl = true) (h0 : x.len = 0) : RO I g n w id (.deep p f x [])
  | deep (p : Bool) (f : Nat) (x : C) (hs : List (Nat × List V)) (b cap : Nat) (cells : List Value) (ty : TypeId) (hg : g id = some (b, cap, x.len)) (hsl : x.isSl = true)
      (hb : w.heap[b]? = some (.cells cells.toArray ty (0, 0))) (hl : cells.length = cap * x.stride) (hcap : x.len ≤ cap)
      (hh : ∀ i us, (i, us) ∈ hs → i < x.len ∧ us.length = x.stride) (hkn : (keysHs hs).Nodup)
      (h : ∀ (i j : Nat) y, f ≤ i → i < x.len → i ∉ keysHs hs → (x.row i)[j]? = some y → ∃ v, cells[i * x.stride + j]? = some v ∧ NC w y v)
      (h2 : ∀ i us, (i, us) ∈ hs → ∀ (j : Nat), j < x.stride → ∃ u v, us[j]? = some u ∧ cells[i * x.stride + j]? = some v ∧ v.oneCell' = true ∧ RV I g n w u v)
      (hd : ∀ k k' b' o l c o' l' c', Told f x (keysHs hs) k → Told f x (keysHs hs) k' → cells[k]? = some (.slice (some ⟨b', o, none⟩) l c) → cells[k']? = some (.slice (some ⟨b', o', none⟩) l' c') → k = k' ∧ b' ≠ b)
      (ht : x.isPg = true → ∀ v ∈ cells, SlVal v) : RO I g n w id (.deep p f x hs)

/-- the blocks of an object -/
def Nst (g : Gam) (w : World) (id : Nat) (o : O) (b : Nat) : Prop :=
  match o with
  | .deep _ f x hs => ∃ b0 cl k off len cap, g id = some (b0, cl) ∧ Told f x (keysHs hs) k ∧ w.cell? ⟨b0, k, none⟩ = some (.slice (some ⟨b, off, none⟩) len cap)
  | _ => False
def Own (g : Gam) (w : World) (id : Nat) (o : O) (b : Nat) : Prop := (∃ cl, g id = some (b, cl)) ∨ Nst g w id o b

/-- The objects of a symbolic heap: each is there, they lie apart from each other and from all that is immutable. -/
structure HOk (I : Nat → Prop) (g : Gam) (n : Nat) (w : World) (hp : List (Nat × O)) : Prop where
  obj : ∀ id o, (id, o) ∈ hp → id < n ∧ RO I g n w id o
  apart : ∀ id o b, (id, o) ∈ hp → Own g w id o b → ¬ I b ∧ b < w.heap.size
  nodup : (hp.map (·.1)).Nodup
  inj : ∀ id o id' o' b, (id, o) ∈ hp → (id', o') ∈ hp → Own g w id o b → Own g w id' o' b → id = id'

/-- Nothing has turned but the blocks of D and what is new. -/
structure Fr (D : Nat → Prop) (W w : World) : Prop where
  os : w.os = W.os
  tape : w.tape = W.tape
  output : w.output = W.output
  size : W.heap.size ≤ w.heap.size
  block : ∀ b, b < W.heap.size → ¬ D b → w.heap[b]? = W.heap[b]?

def Dom (g : Gam) (w : World) (hp : List (Nat × O)) (b : Nat) : Prop := ∃ id o, (id, o) ∈ hp ∧ Own g w id o b

/-- The contract of a function: called with args in a memory that holds the objects hin, it returns res in a memory that holds hout.
    n bounds the ids of args and hin, m those of res and hout. -/
def Callable (P : Program) (f : Nat) : Prop := ∃ fn, P.funcs[f]? = some fn ∧ (fn.name == "runtime.NumGoroutine") = false ∧ fn.body.isNone = false

def Spec (P : Program) (f n : Nat) (args : List V) (hin : List (Nat × O)) (m : Nat) (res : V) (hout : List (Nat × O)) : Prop :=
  Callable P f ∧ ∀ (W : World) (I : Nat → Prop) (g : Gam) (argv : List Value),
    (∀ b, I b → b < W.heap.size) → HOk I g n W hin → args.length = argv.length →
    (∀ (i : Nat) x v, args[i]? = some x → argv[i]? = some v → RV I g n W x v) →
    Calls P f argv.toArray W fun e w' => ∃ (v : Value) (I' : Nat → Prop) (g' : Gam), e = .returned v ∧
      (∀ b, I b → I' b) ∧ (∀ b, I' b → I b ∨ W.heap.size ≤ b ∨ Dom g W hin b) ∧ (∀ b, I' b → b < w'.heap.size) ∧
      HOk I' g' m w' hout ∧ RV I' g' m w' res v ∧
      (∀ id o o', (id, o) ∈ hin → (id, o') ∈ hout → o'.isBox = true → g' id = g id) ∧
      (∀ b, Dom g' w' hout b → W.heap.size ≤ b ∨ Dom g W hin b) ∧ Fr (Dom g W hin) W w'
end Go.VL
