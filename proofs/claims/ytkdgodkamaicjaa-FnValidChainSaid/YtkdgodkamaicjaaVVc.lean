/- V-logic, part 2: the conditions: `vwp` over the model's Code. -/
import Derived.Test.YtkdgodkamaicjaaVDefs
namespace Go.VL
set_option linter.unusedVariables false
set_option linter.unusedSimpArgs false

inductive Kd where
  | nums (k : IntKind)
  | bools
  | prs
  | pgs
  | lks
  | ops
  | numss
  | prss

def Kd.empty : Kd → C
  | .nums k => .nums k []
  | .bools => .bools []
  | .prs => .prs []
  | .pgs => .pgs []
  | .lks => .lks []
  | .ops => .ops []
  | .numss => .numss []
  | .prss => .prss []

/-- n elements that are zero. -/
def Kd.zeros : Kd → Nat → C
  | .nums k, n => .nums k (List.replicate n 0)
  | .bools, n => .bools (List.replicate n false)
  | .prs, n => .prs (List.replicate n ⟨0, 0⟩)
  | .pgs, n => .pgs (List.replicate n ⟨[], [], []⟩)
  | .lks, n => .lks (List.replicate n ⟨[], 0, 0⟩)
  | .ops, n => .ops (List.replicate n ⟨0, 0, 0⟩)
  | .numss, n => .numss (List.replicate n [])
  | .prss, n => .prss (List.replicate n [])

/-- What is told of a type: size in cells, bytes. -/
inductive TI where
  | bad
  | prim (z : V)
  | slice (e sz bytes : Nat) (kd : Kd)
  | struct (fs : List (Nat × Nat × Bool)) (zs : List V)
  | arr (n e : Nat) (kd : Kd)
  | boxb (fs : List (Nat × Nat × Bool)) (pre : List V) (n : Nat) (post : List V)

abbrev TT := Nat → TI

structure S where
  nt : Nat
  nx : Nat
  env : List (Nat × V)
  hp : List (Nat × O)

def look : List (Nat × V) → Nat → V
  | [], _ => .any
  | (k, v) :: t, j => match Nat.beq k j with | true => v | false => look t j

def lookH : List (Nat × O) → Nat → Option O
  | [], _ => none
  | (k, v) :: t, j => match Nat.beq k j with | true => some v | false => lookH t j

def dropH : List (Nat × O) → Nat → List (Nat × O)
  | [], _ => []
  | (k, v) :: t, j => match Nat.beq k j with | true => t | false => (k, v) :: dropH t j

def setH : List (Nat × O) → Nat → O → List (Nat × O)
  | [], _, _ => []
  | (k, v) :: t, j, o => match Nat.beq k j with | true => (k, o) :: t | false => (k, v) :: setH t j o

def cval : Value → V
  | .int k n => V.c (C.int k n)
  | .bool true => .tt
  | .bool false => .ff
  | .slice none 0 0 => .nil
  | .tuple vs => match vs.toList with | [] => .tup [] | _ => .any
  | _ => .any

def evl (env : List (Nat × V)) : Operand → V
  | .tmp t => look env t
  | .const v => cval v
  | .func f => .fn f []
  | .global _ => .any

def C.force (x : C) (K : C → Prop) : Prop :=
  match x with
  | .int k n => K (.int k n)
  | .bool b => K (.bool b)
  | .nums k xs => K (.nums k xs)
  | .bools xs => K (.bools xs)
  | .prs xs => K (.prs xs)
  | .pgs xs => K (.pgs xs)
  | .lks xs => K (.lks xs)
  | .ops xs => K (.ops xs)
  | .numss xs => K (.numss xs)
  | .prss xs => K (.prss xs)

def V.force (v : V) (K : V → Prop) : Prop :=
  match v with
  | .any => K .any
  | .tt => K .tt
  | .ff => K .ff
  | .nil => K .nil
  | .c x => x.force fun x => K (.c x)
  | .agg xs => K (.agg xs)
  | .tup xs => K (.tup xs)
  | .iptr r => K (.iptr r)
  | .ptr a1 a2 a3 a4 => K (.ptr a1 a2 a3 a4)
  | .slc a1 => K (.slc a1)
  | .fn f cs => K (.fn f cs)

/-- the slot dst gets v -/
def S.put (s : S) (dst : Option Nat) (v : V) (K : S → Prop) : Prop :=
  match s with
  | ⟨nt, nx, env, hp⟩ => match dst with
    | none => K ⟨nt, nx, env, hp⟩
    | some d => match Nat.blt d nt with
      | true => v.force fun v => K ⟨nt, nx, (d, v) :: env, hp⟩
      | false => False

def forceL : List V → (List V → Prop) → Prop
  | [], K => K []
  | v :: t, K => v.force fun v => forceL t fun t => K (v :: t)

def forceE : List (Nat × V) → (List (Nat × V) → Prop) → Prop
  | [], K => K []
  | (k, v) :: t, K => v.force fun v => forceE t fun t => K ((k, v) :: t)

def forceHs : List (Nat × List V) → (List (Nat × List V) → Prop) → Prop
  | [], K => K []
  | (i, vs) :: t, K => forceL vs fun vs => forceHs t fun t => K ((i, vs) :: t)

def forceH : List (Nat × O) → (List (Nat × O) → Prop) → Prop
  | [], K => K []
  | (k, o) :: t, K => match o with
    | .arr x => x.force fun x => forceH t fun t => K ((k, .arr x) :: t)
    | .hol x hi vs => x.force fun x => forceL vs fun vs => forceH t fun t => K ((k, .hol x hi vs) :: t)
    | .deep p f x hs => x.force fun x => forceHs hs fun hs => forceH t fun t => K ((k, .deep p f x hs) :: t)
    | .box pre bs post => forceL pre fun pre => forceL post fun post => forceH t fun t => K ((k, .box pre bs post) :: t)

/-- a state in its plain form -/
def S.force (s : S) (K : S → Prop) : Prop :=
  match s with
  | ⟨nt, nx, env, hp⟩ => forceE env fun env => forceH hp fun hp => K ⟨nt, nx, env, hp⟩

/-- the heap alone is new -/
def S.withHp (s : S) (hp : List (Nat × O)) (K : S → Prop) : Prop :=
  match s with
  | ⟨nt, nx, env, _⟩ => forceH hp fun hp => K ⟨nt, nx, env, hp⟩

def V.slB : V → Bool
  | .slc _ => true
  | .nil => true
  | .c x => x.isSl
  | _ => false
def slL : List V → Bool
  | [] => true
  | v :: t => match v.slB with | true => slL t | false => false
/-- what may lie in the cells of an array like x -/
def holOk (x : C) (cs : List V) : Bool :=
  match x.isPg with
  | true => slL cs
  | false => true

@[irreducible] def vif (p : Bool) (A B : Prop) : Prop := (p = true → A) ∧ (p = false → B)
/-- A number that must fit its kind, or is wrapped. -/
@[irreducible] def vint (k : IntKind) (r : Int) (K : V → Prop) : Prop :=
  (k.wrap r = r ∧ K (.c (.int k r))) ∨ K (.c (.int k (k.wrap r)))
@[irreducible] def vneed (c : Prop) (K : Prop) : Prop := c ∧ K
/-- A or B; the walk says which. -/
@[irreducible] def vch (A B : Prop) : Prop := A ∨ B
/-- A where c, B where not c; the walk says which. -/
@[irreducible] def vor (c A B : Prop) : Prop := (c ∧ A) ∨ (¬ c ∧ B)

def sameK : IntKind → IntKind → Bool
  | .i8, .i8 | .i16, .i16 | .i32, .i32 | .i64, .i64 | .u8, .u8 | .u16, .u16 | .u32, .u32 | .u64, .u64 => true
  | _, _ => false

def V.bool? : V → Option Bool
  | .tt => some true
  | .ff => some false
  | .c (.bool b) => some b
  | _ => none

def vbit (op : BinOp) (k : IntKind) (x y : Int) : Int :=
  let a := BitVec.ofInt k.bits x
  let b := BitVec.ofInt k.bits y
  match op with
  | .and => k.wrap (a &&& b).toNat
  | .or => k.wrap (a ||| b).toNat
  | .xor => k.wrap (a ^^^ b).toNat
  | _ => k.wrap (a &&& ~~~b).toNat

def vbin (op : BinOp) (x y : V) (K : V → Prop) : Prop :=
  match x, y with
  | .c (.int k a), .c (.int k' b) =>
    match sameK k k' with
    | false => False
    | true =>
      match op with
      | .add => vint k (a + b) K
      | .sub => vint k (a - b) K
      | .mul => vint k (a * b) K
      | .quo => vneed (b ≠ 0) (vint k (a.tdiv b) K)
      | .rem => vneed (b ≠ 0) (K (.c (.int k (a.tmod b))))
      | .and => K (.c (.int k (vbit .and k a b)))
      | .or => K (.c (.int k (vbit .or k a b)))
      | .xor => K (.c (.int k (vbit .xor k a b)))
      | .eql => K (.c (.bool (a == b)))
      | .neq => K (.c (.bool (a != b)))
      | .lss => K (.c (.bool (decide (a < b))))
      | .leq => K (.c (.bool (decide (a ≤ b))))
      | .gtr => K (.c (.bool (decide (a > b))))
      | .geq => K (.c (.bool (decide (a ≥ b))))
      | _ => False
  | .agg [.c (.int .i64 a), .c (.int .i64 b)], .agg [.c (.int .i64 c), .c (.int .i64 d)] =>
    match op with
    | .eql => K (.c (.bool (a == c && b == d)))
    | .neq => K (.c (.bool (!(a == c && b == d))))
    | _ => False
  | x, y =>
    match x.bool?, y.bool? with
    | some a, some b =>
      match op with
      | .eql => K (.c (.bool (a == b)))
      | .neq => K (.c (.bool (a != b)))
      | _ => False
    | _, _ => False

def TI.isAgg : TI → Bool
  | .struct .. => true
  | .arr .. => true
  | .boxb .. => true
  | _ => false

def TI.size : TI → Nat
  | .struct _ zs => zs.length
  | .arr n _ _ => n
  | .boxb _ pre n post => pre.length + n + post.length
  | _ => 1

def TI.field (ti : TI) (f : Nat) : Option (Nat × Nat × Bool) :=
  match ti with
  | .struct fs _ => fs[f]?
  | .boxb fs _ _ _ => fs[f]?
  | _ => none

def vcells : List C → List V
  | [] => []
  | x :: t => .c x :: vcells t

/-- a load of a variable of type t out of a row of pure cells -/
def vloadRow (ti : TI) (row : List C) (K : V → Prop) : Prop :=
  match ti.isAgg with
  | true => match Nat.ble ti.size row.length with
    | true => K (.agg (vcells (row.take ti.size)))
    | false => False
  | false => match row with
    | x :: _ => K (.c x)
    | [] => False

/-- the same out of a row of values -/
def vloadVs (ti : TI) (row : List V) (K : V → Prop) : Prop :=
  match ti.isAgg with
  | true => match Nat.ble ti.size row.length with
    | true => K (.agg (row.take ti.size))
    | false => False
  | false => match row with
    | x :: _ => x.force K
    | [] => False

def nthV : List V → Nat → Option V
  | [], _ => none
  | v :: _, 0 => some v
  | _ :: t, n + 1 => nthV t n

/-- what is told of the cells of an element whose slices are its own -/
def mrow : List C → List V
  | [] => []
  | c :: t => match c with
    | .int k n => .c (.int k n) :: mrow t
    | .bool b => .c (.bool b) :: mrow t
    | _ => .any :: mrow t

/-- the element i, told cell by cell or not; pre: what has been looked at -/
def vhole (i : Nat) : List (Nat × List V) → List (Nat × List V) → (List (Nat × List V) → Nat → List V → List (Nat × List V) → Prop) → Prop → Prop
  | _, [], _, B => B
  | pre, (hi, vs) :: t, A, B => vor (i = hi) (A pre hi vs t) (vhole i (pre ++ [(hi, vs)]) t A B)

def TI.ok : TI → Bool
  | .bad => false
  | _ => true

def vload (T : TT) (lk : Nat → Option O) (t : Nat) (a : V) (K : V → Prop) : Prop :=
  match (T t).ok with
  | false => False
  | true =>
  match a with
  | .iptr row => vloadRow (T t) row K
  | .ptr id i st j =>
    match lk id with
    | some (.arr x) => vneed (i < x.len ∧ st = x.stride) (vloadRow (T t) ((x.row i).drop j) K)
    | some (.hol x hi vs) => vneed (i < x.len ∧ st = x.stride) (vor (i = hi) (vloadVs (T t) (vs.drop j) K) (vloadRow (T t) ((x.row i).drop j) K))
    | some (.deep _ f x hs) => vneed (i < x.len ∧ st = x.stride) (vhole i [] hs (fun _ _ vs _ => vloadVs (T t) (vs.drop j) K) (vneed (f ≤ i) (vloadVs (T t) ((mrow (x.row i)).drop j) K)))
    | some (.box pre bs post) =>
      match Nat.beq st 0 with
      | true =>
        match (T t).isAgg with
        | true => match bs with
          | [] => match Nat.ble (j + (T t).size) (pre ++ post).length with
            | true => K (.agg (((pre ++ post).drop j).take (T t).size))
            | false => False
          | _ => match Nat.ble (j + (T t).size) pre.length with
            | true => K (.agg ((pre.drop j).take (T t).size))
            | false => False
        | false => match nthV pre j with
          | some v => v.force K
          | none => match nthV post (j - pre.length - bs.length) with
            | some v => match Nat.ble (pre.length + bs.length) j with | true => v.force K | false => False
            | none => False
      | false => match (T t).isAgg with
        | true => False
        | false => vneed (st = 1 ∧ j = pre.length ∧ i < bs.length) (K (.c (.bool (bs.getD i false))))
    | none => False
  | _ => False

def V.asInt (k : IntKind) : V → Option Int
  | .c (.int k' n) => match sameK k k' with | true => some n | false => none
  | _ => none
def V.asNums : V → Option (List Int)
  | .c (.nums .i64 xs) => some xs
  | .nil => some []
  | _ => none
def V.asPrs : V → Option (List Pr)
  | .c (.prs xs) => some xs
  | .nil => some []
  | _ => none

def mk2 (v : V) : Option Pr :=
  match v with
  | .agg [a, b] => match a.asInt .i64, b.asInt .i64 with | some x, some y => some ⟨x, y⟩ | _, _ => none
  | _ => none
def mkPg (v : V) : Option Pg :=
  match v with
  | .agg [a, b, c] => match a.asNums, b.asNums, c.asNums with | some x, some y, some z => some ⟨x, y, z⟩ | _, _, _ => none
  | _ => none
def mkLk (v : V) : Option Lk :=
  match v with
  | .agg [a, b, c] => match a.asNums, b.asInt .i64, c.asInt .i64 with | some x, some y, some z => some ⟨x, y, z⟩ | _, _, _ => none
  | _ => none
def mkOp (v : V) : Option Opn :=
  match v with
  | .agg [a, b, c] => match a.asInt .i64, b.asInt .i64, c.asInt .i64 with | some x, some y, some z => some ⟨x, y, z⟩ | _, _, _ => none
  | _ => none

/-- one element more -/
def C.snoc (x : C) (v : V) : Option C :=
  match x with
  | .nums k xs => (v.asInt k).map fun n => .nums k (xs ++ [n])
  | .bools xs => v.bool?.map fun b => .bools (xs ++ [b])
  | .prs xs => (mk2 v).map fun p => .prs (xs ++ [p])
  | .pgs xs => (mkPg v).map fun p => .pgs (xs ++ [p])
  | .lks xs => (mkLk v).map fun p => .lks (xs ++ [p])
  | .ops xs => (mkOp v).map fun p => .ops (xs ++ [p])
  | .numss xs => v.asNums.map fun p => .numss (xs ++ [p])
  | .prss xs => v.asPrs.map fun p => .prss (xs ++ [p])
  | _ => none

/-- all elements of another slice more -/
def C.app (x y : C) : Option C :=
  match x, y with
  | .nums k xs, .nums k' ys => match sameK k k' with | true => some (.nums k (xs ++ ys)) | false => none
  | .bools xs, .bools ys => some (.bools (xs ++ ys))
  | .prs xs, .prs ys => some (.prs (xs ++ ys))
  | .pgs xs, .pgs ys => some (.pgs (xs ++ ys))
  | .lks xs, .lks ys => some (.lks (xs ++ ys))
  | .ops xs, .ops ys => some (.ops (xs ++ ys))
  | .numss xs, .numss ys => some (.numss (xs ++ ys))
  | .prss xs, .prss ys => some (.prss (xs ++ ys))
  | _, _ => none

/-- element i is another one -/
def C.setRow (x : C) (i : Nat) (v : V) : Option C :=
  match x with
  | .nums k xs => (v.asInt k).map fun n => .nums k (xs.set i n)
  | .bools xs => v.bool?.map fun b => .bools (xs.set i b)
  | .prs xs => (mk2 v).map fun p => .prs (xs.set i p)
  | .pgs xs => (mkPg v).map fun p => .pgs (xs.set i p)
  | .lks xs => (mkLk v).map fun p => .lks (xs.set i p)
  | .ops xs => (mkOp v).map fun p => .ops (xs.set i p)
  | .numss xs => v.asNums.map fun p => .numss (xs.set i p)
  | .prss xs => v.asPrs.map fun p => .prss (xs.set i p)
  | _ => none

/-- cell j of element i (of several cells) is another one -/
def C.setCell (x : C) (i j : Nat) (v : V) : Option C :=
  match x with
  | .prs xs => match j with
    | 0 => (v.asInt .i64).map fun n => .prs (xs.set i { xs.getD i ⟨0, 0⟩ with key := n })
    | 1 => (v.asInt .i64).map fun n => .prs (xs.set i { xs.getD i ⟨0, 0⟩ with value := n })
    | _ => none
  | .pgs xs => match j with
    | 0 => v.asNums.map fun n => .pgs (xs.set i { xs.getD i ⟨[], [], []⟩ with keys := n })
    | 1 => v.asNums.map fun n => .pgs (xs.set i { xs.getD i ⟨[], [], []⟩ with kids := n })
    | 2 => v.asNums.map fun n => .pgs (xs.set i { xs.getD i ⟨[], [], []⟩ with vals := n })
    | _ => none
  | .lks xs => match j with
    | 0 => v.asNums.map fun n => .lks (xs.set i { xs.getD i ⟨[], 0, 0⟩ with keys := n })
    | 1 => (v.asInt .i64).map fun n => .lks (xs.set i { xs.getD i ⟨[], 0, 0⟩ with high := n })
    | 2 => (v.asInt .i64).map fun n => .lks (xs.set i { xs.getD i ⟨[], 0, 0⟩ with right := n })
    | _ => none
  | _ => none

def setV : List V → Nat → V → List V
  | [], _, _ => []
  | _ :: t, 0, v => v :: t
  | x :: t, n + 1, v => x :: setV t n v

def V.cells : V → List V
  | .agg xs => xs
  | v => [v]

def setVs : List V → Nat → List V → List V
  | xs, _, [] => xs
  | xs, j, v :: vs => setVs (setV xs j v) (j + 1) vs

def S.alloc (s : S) (dst : Option Nat) (o : O) (v : V) (K : S → Prop) : Prop :=
  match s with
  | ⟨nt, nx, env, hp⟩ => forceH [(nx, o)] fun h => S.put ⟨nt, nx + 1, env, h ++ hp⟩ dst v K

def valloc (T : TT) (t : Nat) (s : S) (dst : Option Nat) (K : S → Prop) : Prop :=
  match T t with
  | .prim z => s.alloc dst (.box [z] [] []) (.ptr s.nx 0 0 0) K
  | .slice _ _ _ _ => s.alloc dst (.box [.nil] [] []) (.ptr s.nx 0 0 0) K
  | .struct _ zs => s.alloc dst (.box zs [] []) (.ptr s.nx 0 0 0) K
  | .arr n _ kd => s.alloc dst (.arr (kd.zeros n)) (.ptr s.nx 0 (kd.empty).stride 0) K
  | .boxb _ pre n post => s.alloc dst (.box pre (List.replicate n false) post) (.ptr s.nx 0 0 0) K
  | .bad => False

def vfieldAddr (T : TT) (t : Nat) (a : V) (f : Nat) (K : V → Prop) : Prop :=
  match (T t).field f with
  | some (off, _, _) => match a with
    | .iptr row => K (.iptr (row.drop off))
    | .ptr id i st j => K (.ptr id i st (j + off))
    | _ => False
  | none => False

def vfield (T : TT) (t : Nat) (a : V) (f : Nat) (K : V → Prop) : Prop :=
  match T t with
  | .struct fs zs => match fs[f]? with
    | some (off, sz, ag) => match a with
      | .agg xs => match Nat.beq xs.length zs.length with
        | true => match ag with
          | true => match Nat.ble (off + sz) xs.length with
            | true => K (.agg ((xs.drop off).take sz))
            | false => False
          | false => match nthV xs off with | some v => v.force K | none => False
        | false => False
      | _ => False
    | none => False
  | _ => False

def vindexAddr (T : TT) (lk : Nat → Option O) (t : Nat) (x ix : V) (K : V → Prop) : Prop :=
  match ix with
  | .c (.int _ i) =>
    match T t with
    | .slice _ sz _ _ => match x with
      | .c l => match Nat.beq l.stride sz with
        | true => vneed (l.isSl = true ∧ 0 ≤ i ∧ i < l.len) (K (.iptr (l.row i.toNat)))
        | false => False
      | .slc id => match lk id with
        | some (.arr l) => match Nat.beq l.stride sz with
          | true => vneed (0 ≤ i ∧ i < l.len) (K (.ptr id i.toNat sz 0))
          | false => False
        | some (.hol l _ _) => match Nat.beq l.stride sz with
          | true => vneed (0 ≤ i ∧ i < l.len) (K (.ptr id i.toNat sz 0))
          | false => False
        | some (.deep _ _ l _) => match Nat.beq l.stride sz with
          | true => vneed (0 ≤ i ∧ i < l.len) (K (.ptr id i.toNat sz 0))
          | false => False
        | _ => False
      | _ => False
    | .arr n _ _ => match x with
      | .ptr id 0 _ j => vneed (0 ≤ i ∧ i < n) (K (.ptr id i.toNat 1 j))
      | _ => False
    | _ => False
  | _ => False

def C.drop (x : C) (n : Nat) : C :=
  match x with
  | .nums k xs => .nums k (xs.drop n)
  | .bools xs => .bools (xs.drop n)
  | .prs xs => .prs (xs.drop n)
  | .pgs xs => .pgs (xs.drop n)
  | .lks xs => .lks (xs.drop n)
  | .ops xs => .ops (xs.drop n)
  | .numss xs => .numss (xs.drop n)
  | .prss xs => .prss (xs.drop n)
  | x => x
def C.take (x : C) (n : Nat) : C :=
  match x with
  | .nums k xs => .nums k (xs.take n)
  | .bools xs => .bools (xs.take n)
  | .prs xs => .prs (xs.take n)
  | .pgs xs => .pgs (xs.take n)
  | .lks xs => .lks (xs.take n)
  | .ops xs => .ops (xs.take n)
  | .numss xs => .numss (xs.take n)
  | .prss xs => .prss (xs.take n)
  | x => x

/-- x[lo:hi] of an immutable slice -/
def vslice (T : TT) (t : Nat) (x : V) (lo hi mx : Option V) (K : V → Prop) : Prop :=
  match T t, mx, x with
  | .slice _ sz _ _, none, .c l =>
    match Nat.beq l.stride sz with
    | false => False
    | true =>
      match lo, hi with
      | none, none => vneed (l.isSl = true) (K (.c l))
      | some (.c (.int _ a)), none => vneed (l.isSl = true ∧ 0 ≤ a ∧ a ≤ l.len) ((l.drop a.toNat).force fun l => K (.c l))
      | none, some (.c (.int _ b)) => vneed (l.isSl = true ∧ 0 ≤ b ∧ b ≤ l.len) ((l.take b.toNat).force fun l => K (.c l))
      | some (.c (.int _ a)), some (.c (.int _ b)) =>
        vneed (l.isSl = true ∧ 0 ≤ a ∧ a ≤ b ∧ b ≤ l.len) (((l.take b.toNat).drop a.toNat).force fun l => K (.c l))
      | _, _ => False
  | _, _, _ => False

def vlen (lk : Nat → Option O) (x : V) (K : V → Prop) : Prop :=
  match x with
  | .nil => K (.c (.int .i64 0))
  | .c l => match l.isSl with | true => K (.c (.int .i64 l.len)) | false => False
  | .slc id => match lk id with | some (.arr l) => K (.c (.int .i64 l.len)) | some (.hol l _ _) => K (.c (.int .i64 l.len)) | some (.deep _ _ l _) => K (.c (.int .i64 l.len)) | _ => False
  | _ => False


mutual
/-- no way leads to the object id any more -/
def V.forget (id : Nat) : V → V
  | .ptr i a b c' => match Nat.beq i id with | true => .any | false => .ptr i a b c'
  | .slc i => match Nat.beq i id with | true => .any | false => .slc i
  | .agg xs => .agg (forgetL id xs)
  | .tup xs => .tup (forgetL id xs)
  | .fn f xs => .fn f (forgetL id xs)
  | v => v
def forgetL (id : Nat) : List V → List V
  | [] => []
  | x :: t => V.forget id x :: forgetL id t
end

mutual
/-- the owned slice id is from now on immutable -/
def V.frz (id : Nat) (x : C) : V → V
  | .ptr i a b c' => match Nat.beq i id with | true => .any | false => .ptr i a b c'
  | .slc i => match Nat.beq i id with | true => .c x | false => .slc i
  | .agg xs => .agg (frzL id x xs)
  | .tup xs => .tup (frzL id x xs)
  | .fn f xs => .fn f (frzL id x xs)
  | v => v
def frzL (id : Nat) (x : C) : List V → List V
  | [] => []
  | y :: t => V.frz id x y :: frzL id x t
end

mutual
def V.ren (r : Nat → Nat) : V → V
  | .ptr i a b c' => .ptr (r i) a b c'
  | .slc i => .slc (r i)
  | .agg xs => .agg (renL r xs)
  | .tup xs => .tup (renL r xs)
  | .fn f xs => .fn f (renL r xs)
  | v => v
def renL (r : Nat → Nat) : List V → List V
  | [] => []
  | y :: t => V.ren r y :: renL r t
end

mutual
/-- all ids are below n -/
def V.idsLt (n : Nat) : V → Bool
  | .ptr i _ _ _ => Nat.blt i n
  | .slc i => Nat.blt i n
  | .agg xs => idsLtL n xs
  | .tup xs => idsLtL n xs
  | .fn _ xs => idsLtL n xs
  | _ => true
def idsLtL (n : Nat) : List V → Bool
  | [] => true
  | y :: t => match V.idsLt n y with | true => idsLtL n t | false => false
end

def mapE (f : V → V) : List (Nat × V) → List (Nat × V)
  | [] => []
  | (k, v) :: t => (k, f v) :: mapE f t

def mapHs (fl : List V → List V) : List (Nat × List V) → List (Nat × List V)
  | [] => []
  | (i, vs) :: t => (i, fl vs) :: mapHs fl t

def O.map (fl : List V → List V) : O → O
  | .box pre bs post => .box (fl pre) bs (fl post)
  | .arr x => .arr x
  | .hol x hi vs => .hol x hi (fl vs)
  | .deep p f x hs => .deep p f x (mapHs fl hs)

def mapH (fl : List V → List V) : List (Nat × O) → List (Nat × O)
  | [] => []
  | (k, o) :: t => (k, o.map fl) :: mapH fl t

def S.forget (s : S) (id : Nat) : S := { s with env := mapE (V.forget id) s.env, hp := mapH (forgetL id) s.hp }

/-- what a slice holds, be it owned or not -/
def view (kd : Kd) (lk : Nat → Option O) (v : V) (K : C → Option (Nat × List V) → Prop) : Prop :=
  match v with
  | .nil => K kd.empty none
  | .c y => y.force fun y => K y none
  | .slc id => match lk id with
    | some (.arr y) => y.force fun y => K y none
    | some (.hol y hi vs) => y.force fun y => K y (some (hi, vs))
    | _ => False
  | _ => False

/-- an array of which one element may be told cell by cell; n: how many elements lie ahead of it -/
def holO (z : C) (n : Nat) (hy : Option (Nat × List V)) : O :=
  match hy with
  | none => .arr z
  | some (hi, vs) => .hol z (n + hi) vs
def forgetHY (id : Nat) (hy : Option (Nat × List V)) : Option (Nat × List V) :=
  match hy with
  | none => none
  | some (hi, vs) => some (hi, forgetL id vs)


/-- the owned slices that a value names -/
def V.slcs : V → List Nat
  | .slc i => [i]
  | .agg xs => go xs
  | _ => []
where go : List V → List Nat
  | [] => []
  | .slc i :: t => i :: go t
  | _ :: t => go t
def slcsL : List (Nat × V) → List Nat
  | [] => []
  | (_, v) :: t => v.slcs ++ slcsL t

/-- freeze some owned slices; vs: values at hand -/
def vfz : List Nat → S → List V → (S → List V → Prop) → Prop
  | [], s, vs, K => K s vs
  | id :: t, s, vs, K => match lookH s.hp id with
    | some (.arr x) => S.force { s with env := mapE (V.frz id x) s.env, hp := mapH (frzL id x) (dropH s.hp id) } fun s => forceL (frzL id x vs) fun vs => vfz t s vs K
    | some (.hol y hi us) => match y.setRow hi (.agg us) with
      | some x => S.force { s with env := mapE (V.frz id x) s.env, hp := mapH (frzL id x) (dropH s.hp id) } fun s => forceL (frzL id x vs) fun vs => vfz t s vs K
      | none => False
    | some (.deep _ 0 x []) => S.force { s with env := mapE (V.frz id x) s.env, hp := mapH (frzL id x) (dropH s.hp id) } fun s => forceL (frzL id x vs) fun vs => vfz t s vs K
    | _ => False

/-- a value that takes one cell of memory -/
def V.one : V → Bool
  | .any => false
  | .agg _ => false
  | .tup _ => false
  | _ => true
def oneL : List V → Bool
  | [] => true
  | v :: t => match v.one with | true => oneL t | false => false

/-- what an array's content becomes by a store at cell j of element i -/
def vset (x : C) (ti : TI) (i j : Nat) (v : V) (K : C → Prop) : Prop :=
  match Nat.beq x.stride ti.size with
  | true => match Nat.beq j 0 with
    | true => match x.setRow i v with | some x' => K x' | none => False
    | false => False
  | false => match ti.isAgg with
    | true => False
    | false => match x.setCell i j v with | some x' => K x' | none => False

/-- may the cells cs be a whole element of x -/
def whOk (x : C) (sz j : Nat) (cs : List V) : Bool :=
  oneL cs && Nat.beq cs.length sz && Nat.beq sz x.stride && Nat.beq j 0 && holOk x cs

/-- nothing but numbers and bools -/
def C.flatB : C → Bool
  | .nums _ _ => true
  | .bools _ => true
  | .prs _ => true
  | .ops _ => true
  | _ => false

def C.isNums : C → Bool
  | .nums _ _ => true
  | _ => false

/-- a store into an array whose elements' slices are its own -/
def deepSt (p : Bool) (f : Nat) (x : C) (hs : List (Nat × List V)) (ti : TI) (i j : Nat) (v : V) (K : O → Prop) : Prop :=
  vhole i [] hs (fun pre hi vs t => match (match oneL v.cells with | true => Nat.beq v.cells.length ti.size | false => false) with
      | true => match (match holOk x v.cells with | true => Nat.ble (j + ti.size) vs.length | false => false) with
        | true => K (.deep p f x (pre ++ (hi, setVs vs j v.cells) :: t))
        | false => False
      | false => False)
    (match x.isNums with
      | true => vset x ti i j v fun x' => K (.deep p f x' hs)
      | false => match whOk x ti.size j v.cells with
        | true => K (.deep p f x (hs ++ [(i, v.cells)]))
        | false => False)

/-- a store of v at a -/
def vstore (T : TT) (t : Nat) (s : S) (a v : V) (K : S → Prop) : Prop :=
  match a with
  | .ptr id i st j =>
    match lookH s.hp id with
    | some (.arr _) => vfz v.slcs s [v] fun s vs => match vs with
      | [v] => match lookH s.hp id with
        | some (.arr x) => vneed (i < x.len ∧ st = x.stride) (vset x (T t) i j v fun x' => s.withHp (setH s.hp id (.arr x')) K)
        | _ => False
      | _ => False
    | some (.hol x hi vs) => vneed (i < x.len ∧ st = x.stride) (vor (i = hi)
        (match (match oneL v.cells with | true => Nat.beq v.cells.length (T t).size | false => false) with
          | true => match (match holOk x v.cells with | true => Nat.ble (j + (T t).size) vs.length | false => false) with
            | true => s.withHp (setH s.hp id (.hol x hi (setVs vs j v.cells))) K
            | false => False
          | false => False)
        (vset x (T t) i j v fun x' => s.withHp (setH s.hp id (.hol x' hi vs)) K))
    | some (.deep p f x hs) => vneed (i < x.len ∧ st = x.stride) (deepSt p f x hs (T t) i j v fun ob => s.withHp (setH s.hp id ob) K)
    | some (.box pre bs post) =>
      match Nat.beq st 0 with
      | true =>
        match (match oneL v.cells with | true => Nat.beq v.cells.length (T t).size | false => false) with
        | true => match Nat.ble (j + (T t).size) pre.length with
          | true => s.withHp (setH s.hp id (.box (setVs pre j v.cells) bs post)) K
          | false => match Nat.ble (pre.length + bs.length) j with
            | true => match Nat.ble (j + (T t).size) (pre.length + bs.length + post.length) with
              | true => s.withHp (setH s.hp id (.box pre bs (setVs post (j - pre.length - bs.length) v.cells))) K
              | false => False
            | false => False
        | false => False
      | false => match (T t).isAgg with
        | true => False
        | false => match v.bool? with
          | some b => vneed (st = 1 ∧ j = pre.length ∧ i < bs.length) (s.withHp (setH s.hp id (.box pre (bs.set i b) post)) K)
          | none => False
    | none => False
  | _ => False

/-- elements of which some cells are slices of numbers -/
def Kd.nest : Kd → Bool
  | .pgs => true
  | .lks => true
  | .numss => true
  | _ => false

def litOk (x : C) (sz : Nat) (cs : List V) : Bool :=
  match Nat.beq x.stride sz, Nat.beq cs.length sz, holOk x cs with
  | true, true, true => oneL cs
  | _, _, _ => false

def fitK (kd : Kd) (z : C) (sz : Nat) : Bool :=
  match Nat.beq z.stride sz, kd.empty.isPg, z.isPg with
  | true, true, true => true
  | true, false, false => true
  | _, _, _ => false

/-- append -/
def vappend (T : TT) (t : Nat) (s : S) (dst : Option Nat) (base src : V) (K : S → Prop) : Prop :=
  match T t with
  | .slice _ sz _ kd =>
    view kd (lookH s.hp) src fun y hy =>
      match base with
      | .nil => match C.app kd.empty y with
        | some z => match fitK kd z sz with
          | true => vneed (z.len ≤ 4294967296) (z.force fun z => s.alloc dst (holO z 0 hy) (.slc s.nx) K)
          | false => False
        | none => False
      | .slc id => match lookH s.hp id with
        | some (.arr x) => match C.app x y with
          | some z => match fitK kd z sz with
            | true => vneed (z.len ≤ 4294967296) (z.force fun z =>
                S.force { s.forget id with hp := setH (s.forget id).hp id (holO z x.len (forgetHY id hy)) } fun s => S.put s dst (.slc id) K)
            | false => False
          | none => False
        | some (.hol x hi vs) => match C.app x y, hy with
          | some z, none => match fitK kd z sz with
            | true => vneed (z.len ≤ 4294967296) (z.force fun z =>
                S.force { s.forget id with hp := setH (s.forget id).hp id (.hol z hi (forgetL id vs)) } fun s => S.put s dst (.slc id) K)
            | false => False
          | _, _ => False
        | some (.deep false f x hs) => match C.app x y, hy, Nat.beq y.len 1 with
          | some z, some (0, vs), true => match fitK kd z sz with
            | true => vneed (z.len ≤ 4294967296) (z.force fun z =>
                S.force { s.forget id with hp := setH (s.forget id).hp id (.deep false f z (mapHs (forgetL id) hs ++ [(x.len, forgetL id vs)])) } fun s => S.put s dst (.slc id) K)
            | false => False
          | _, _, _ => False
        | _ => False
      | _ => False
  | _ => False

def buildParts : List (Nat × V) → Nat → C → Option C
  | [], _, x => some x
  | (i, v) :: t, k, x => match Nat.beq i k with
    | true => match x.snoc v with | some y => buildParts t (k + 1) y | none => none
    | false => none

def zipP : List (Nat × V) → List V → List (Nat × V)
  | (i, _) :: t, v :: vs => (i, v) :: zipP t vs
  | _, _ => []
def sndP : List (Nat × V) → List V
  | [] => []
  | (_, v) :: t => v :: sndP t

def vlitA (kd : Kd) (sz : Nat) (parts : List (Nat × V)) (s : S) (dst : Option Nat) (K : S → Prop) : Prop :=
  vfz (slcsL parts) s (sndP parts) fun s vs =>
    match buildParts (zipP parts vs) 0 kd.empty with
    | some x => match Nat.beq x.stride sz with
      | true => x.force fun x => s.alloc dst (.arr x) (.slc s.nx) K
      | false => False
    | none => False

def vbuildSlice (T : TT) (t len : Nat) (parts : List (Nat × V)) (s : S) (dst : Option Nat) (K : S → Prop) : Prop :=
  match T t with
  | .slice _ sz _ kd => match Nat.beq parts.length len with
    | true => match Nat.ble (len * sz) 1000000 with
      | true =>
        match kd.nest with
        | false => vlitA kd sz parts s dst K
        | true => match parts with
          | [] => vch (vlitA kd sz [] s dst K) (match Nat.beq kd.empty.stride sz with
            | true => s.alloc dst (.deep false 0 kd.empty []) (.slc s.nx) K
            | false => False)
          | [(0, .agg cs)] => match litOk kd.empty sz cs with
            | true => vch (vlitA kd sz [(0, .agg cs)] s dst K) (forceL cs fun cs => s.alloc dst (.hol (kd.zeros 1) 0 cs) (.slc s.nx) K)
            | false => vlitA kd sz [(0, .agg cs)] s dst K
          | ps => vlitA kd sz ps s dst K
      | false => False
    | false => False
  | _ => False

def buildAgg (fs : List (Nat × Nat × Bool)) (cells : List V) : List (Nat × V) → Option (List V)
  | [] => some cells
  | (i, v) :: t => match fs[i]? with
    | some (off, sz, _) => match Nat.beq v.cells.length sz with
      | true => match Nat.ble (off + sz) cells.length with
        | true => buildAgg fs (setVs cells off v.cells) t
        | false => none
      | false => none
    | none => none

def vbuild (T : TT) (t : Nat) (parts : List (Nat × V)) (K : V → Prop) : Prop :=
  match T t with
  | .struct fs zs => match buildAgg fs zs parts with | some cs => K (.agg cs) | none => False
  | _ => False

def vmake (T : TT) (t : Nat) (l c : V) (s : S) (dst : Option Nat) (K : S → Prop) : Prop :=
  match T t with
  | .slice _ sz _ kd => match l, c with
    | .c (.int .i64 a), .c (.int .i64 b) =>
      match Nat.beq kd.empty.stride sz with
      | true => vneed (0 ≤ a ∧ a = b ∧ a ≤ 4294967296) (match kd.nest with
        | false => s.alloc dst (.arr (kd.zeros a.toNat)) (.slc s.nx) K
        | true => vch (s.alloc dst (.arr (kd.zeros a.toNat)) (.slc s.nx) K) (s.alloc dst (.deep false 0 (kd.zeros a.toNat) []) (.slc s.nx) K))
      | false => False
    | _, _ => False
  | _ => False

def vconv (T : TT) (dst : Nat) (x : V) (K : V → Prop) : Prop :=
  match T dst, x with
  | .prim (.c (.int k _)), .c (.int _ n) => vint k n K
  | _, _ => False

def vun (op : UnOp) (x : V) (K : V → Prop) : Prop :=
  match op with
  | .not => match x with
    | .tt => K .ff
    | .ff => K .tt
    | .c (.bool b) => K (.c (.bool (!b)))
    | _ => False
  | .neg => match x with
    | .c (.int k n) => vint k (0 - n) K
    | _ => False
  | _ => False

def vmm (isMax : Bool) (xs : List V) (K : V → Prop) : Prop :=
  match xs with
  | [.c (.int k a), .c (.int k' b)] => match sameK k k' with
    | true => match isMax with
      | true => K (.c (.int k (if b > a then b else a)))
      | false => K (.c (.int k (if b < a then b else a)))
    | false => False
  | _ => False


def V.flat : V → Bool
  | .tt => true
  | .ff => true
  | .any => true
  | .c (.int _ _) => true
  | .c (.bool _) => true
  | _ => false
def flatL : List V → Bool
  | [] => true
  | x :: t => match V.flat x with | true => flatL t | false => false
def V.scalar : V → Bool
  | .tup xs => flatL xs
  | v => v.flat

mutual
/-- owned arrays, as what they hold -/
def V.lend (lk : Nat → Option O) : V → V
  | .slc id => match lk id with | some (.arr y) => .c y | some (.deep _ 0 y []) => .c y | _ => .slc id
  | .agg xs => .agg (lendL lk xs)
  | v => v
def lendL (lk : Nat → Option O) : List V → List V
  | [] => []
  | x :: t => V.lend lk x :: lendL lk t
end

mutual
/-- all arrays that are lent are arrays of pages -/
def V.lentPg (lk : Nat → Option O) : V → Bool
  | .slc id => match lk id with | some (.arr y) => y.isPg | some (.deep _ _ _ _) => false | _ => true
  | .agg xs => lentPgL lk xs
  | _ => true
def lentPgL (lk : Nat → Option O) : List V → Bool
  | [] => true
  | x :: t => match V.lentPg lk x with | true => lentPgL lk t | false => false
end

/-- a new array like z is apart from all that was lent -/
def okRes (z : C) (lk : Nat → Option O) (args : List V) : Bool :=
  match z.flatB with
  | true => true
  | false => match z.isPg with
    | true => lentPgL lk args
    | false => false

mutual
/-- no memory but that of owned objects -/
def V.flat1 : V → Bool
  | .any => true
  | .tt => true
  | .ff => true
  | .nil => true
  | .c (.int _ _) => true
  | .c (.bool _) => true
  | .slc _ => true
  | .ptr _ _ _ _ => true
  | .agg xs => flat1L xs
  | .tup xs => flat1L xs
  | _ => false
def flat1L : List V → Bool
  | [] => true
  | x :: t => match V.flat1 x with | true => flat1L t | false => false
end

def rnf : List Nat → Nat → Nat
  | [], i => i
  | a :: _, 0 => a
  | _ :: t, i + 1 => rnf t i

def maxN : List Nat → Nat
  | [] => 0
  | a :: t => Nat.max (a + 1) (maxN t)

/-- it was there before and behind, and kept its place -/
def stays (hout : List (Nat × O)) (i : Nat) (o : O) : Bool :=
  match o.isBox with
  | true => match lookH hout i with | some o' => o'.isBox | none => false
  | false => false
/-- what of hin is not what it was: forget it -/
def forgetIn (r : Nat → Nat) (hout : List (Nat × O)) : List (Nat × O) → S → S
  | [], s => s
  | (i, o) :: t, s => match stays hout i o with
    | true => forgetIn r hout t s
    | false => forgetIn r hout t (s.forget (r i))

def dropIn (r : Nat → Nat) : List (Nat × O) → List (Nat × O) → List (Nat × O)
  | [], hp => hp
  | (i, _) :: t, hp => dropIn r t (dropH hp (r i))

def renH (r : Nat → Nat) : List (Nat × O) → List (Nat × O)
  | [] => []
  | (i, o) :: t => (r i, o.map (renL r)) :: renH r t

def idsLtHs (n : Nat) : List (Nat × List V) → Bool
  | [] => true
  | (_, vs) :: t => match idsLtL n vs with | true => idsLtHs n t | false => false

def idsLtH (n : Nat) : List (Nat × O) → Bool
  | [] => true
  | (i, o) :: t => match Nat.blt i n with
    | true => (match o with
      | .arr _ => idsLtH n t
      | .hol _ _ vs => match idsLtL n vs with | true => idsLtH n t | false => false
      | .deep _ _ _ hs => match idsLtHs n hs with | true => idsLtH n t | false => false
      | .box pre _ post => match idsLtL n pre, idsLtL n post with | true, true => idsLtH n t | _, _ => false)
    | false => false

def memN (a : Nat) : List Nat → Bool
  | [] => false
  | b :: t => match Nat.beq a b with | true => true | false => memN a t

def nodupN : List Nat → Bool
  | [] => true
  | a :: t => match memN a t with | true => false | false => nodupN t

def keysH : List (Nat × O) → List Nat
  | [] => []
  | (i, _) :: t => i :: keysH t

/-- each of hin is in the caller's heap -/
def hasIn (r : Nat → Nat) (hp : List (Nat × O)) : List (Nat × O) → Prop
  | [] => True
  | (i, o) :: t => lookH hp (r i) = some (o.map (renL r)) ∧ hasIn r hp t

/-- the ids below m are hin's or new -/
def newIds (r : Nat → Nat) (nx : Nat) (ks : List Nat) : Nat → Bool
  | 0 => true
  | m + 1 => match (match memN m ks with | true => true | false => Nat.ble nx (r m)) with
    | true => newIds r nx ks m
    | false => false

/-- what keeps its place in hout kept it in hin, or is new -/
def boxesStay2 (hin : List (Nat × O)) : List (Nat × O) → Bool
  | [] => true
  | (i, o) :: t => match o.isBox with
    | false => boxesStay2 hin t
    | true => match lookH hin i with
      | some ob => match ob.isBox with | true => boxesStay2 hin t | false => false
      | none => boxesStay2 hin t

/-- new objects that are apart from all that was lent -/
def okObs (lk : Nat → Option O) (args : List V) : List (Nat × O) → Bool
  | [] => true
  | (_, o) :: t => match o with
    | .arr z => match okRes z lk args with | true => okObs lk args t | false => false
    | .deep _ _ _ [] => okObs lk args t
    | _ => false

@[irreducible] def vcall (P : Program) (f : Nat) (args : List V) (s : S) (dst : Option Nat) (K : S → Prop) : Prop :=
  (∃ res : V, res.scalar = true ∧ idsLtL 0 (lendL (lookH s.hp) args) = true ∧ Spec P f 0 (lendL (lookH s.hp) args) [] 0 res [] ∧ S.put s dst res K) ∨
  (∃ (m : Nat) (st : V) (hout : List (Nat × O)), okObs (lookH s.hp) args hout = true ∧ st.flat1 = true ∧ idsLtL 0 (lendL (lookH s.hp) args) = true ∧ Spec P f 0 (lendL (lookH s.hp) args) [] m st hout ∧
    S.force { s with nx := s.nx + m, hp := renH (fun i => s.nx + i) hout ++ s.hp } fun s' => S.put s' dst (st.ren fun i => s.nx + i) K) ∨
  ∃ (fz rn : List Nat) (n : Nat) (fargs : List V) (hin : List (Nat × O)) (m : Nat) (res : V) (hout : List (Nat × O)),
    Spec P f n fargs hin m res hout ∧
    vfz fz s args fun s args =>
      renL (rnf rn) fargs = args ∧ idsLtL n fargs = true ∧ idsLtH n hin = true ∧ hasIn (rnf rn) s.hp hin ∧
      (nodupN rn = true ∧ Nat.ble n rn.length = true ∧ Nat.ble m rn.length = true ∧ newIds (rnf rn) s.nx (keysH hin) m = true ∧ boxesStay2 hin hout = true ∧ nodupN (keysH hin) = true) ∧
      S.force { forgetIn (rnf rn) hout hin s with
        nx := Nat.max s.nx (maxN rn)
        hp := renH (rnf rn) hout ++ dropIn (rnf rn) hin (forgetIn (rnf rn) hout hin s).hp } fun s => S.put s dst (res.ren (rnf rn)) K

def evs (env : List (Nat × V)) : List Operand → List V
  | [] => []
  | x :: t => evl env x :: evs env t

def evp (env : List (Nat × V)) : List (Nat × Operand) → List (Nat × V)
  | [] => []
  | (i, x) :: t => (i, evl env x) :: evp env t

def vbuiltin (T : TT) (b : Builtin) (ts : List Nat) (args : List V) (s : S) (dst : Option Nat) (K : S → Prop) : Prop :=
  match b, args with
  | .len, [x] => match ts with
    | t :: _ => match T t with
      | .slice _ _ _ _ => vlen (lookH s.hp) x fun v => s.put dst v K
      | _ => False
    | _ => False
  | .append, [x, y] => match ts with
    | [t, t'] => match T t' with
      | .slice _ _ _ _ => vappend T t s dst x y K
      | _ => False
    | _ => False
  | .min, [x, y] => vmm false [x, y] fun v => s.put dst v K
  | .max, [x, y] => vmm true [x, y] fun v => s.put dst v K
  | _, _ => False

def pairT : TI → Bool
  | .struct _ [.c (.int .i64 _), .c (.int .i64 _)] => true
  | _ => false
def boolT : TI → Bool
  | .prim .ff => true
  | _ => false
def intT : TI → Bool
  | .prim (.c (.int _ _)) => true
  | _ => false
def vbinOk (T : TT) (t : Nat) (x : V) : Bool :=
  match x with
  | .agg _ => pairT (T t)
  | .c (.int _ _) => true
  | _ => boolT (T t)

def V.oneAgg : V → Bool
  | .agg _ => true
  | v => v.one
def oneAggL : List (Nat × V) → Bool
  | [] => true
  | (_, v) :: t => match v.oneAgg with | true => oneAggL t | false => false

def vop (T : TT) (P : Program) (o : Oper) (s : S) (K : S → Prop) : Prop :=
  match o.op with
  | .move x => s.put o.dst (evl s.env x) K
  | .assign x => s.put o.dst (evl s.env x) K
  | .pick c a b => match evl s.env c with
    | .tt => s.put o.dst (evl s.env a) K
    | .ff => s.put o.dst (evl s.env b) K
    | .c (.bool p) => vif p (s.put o.dst (evl s.env a) K) (s.put o.dst (evl s.env b) K)
    | _ => False
  | .alloc t => valloc T t s o.dst K
  | .box _ x => match (evl s.env x).oneAgg with
    | true => s.alloc o.dst (.box (evl s.env x).cells [] []) (.ptr s.nx 0 0 0) K
    | false => False
  | .build t parts => match oneAggL (evp s.env parts.toList) with
    | true => vbuild T t (evp s.env parts.toList) fun v => s.put o.dst v K
    | false => False
  | .buildSlice t len parts => vbuildSlice T t len (evp s.env parts.toList) s o.dst K
  | .load t a => vload T (lookH s.hp) t (evl s.env a) fun v => s.put o.dst v K
  | .store t a v => match (T t).ok with
    | true => vstore T t s (evl s.env a) (evl s.env v) fun s => s.put o.dst (.tup []) K
    | false => False
  | .nilCheck x => match evl s.env x with
    | .iptr row => s.put o.dst (.iptr row) K
    | .ptr i a b c => s.put o.dst (.ptr i a b c) K
    | _ => False
  | .binOp op t x y _ => match vbinOk T t (evl s.env x) with
    | true => vbin op (evl s.env x) (evl s.env y) fun v => s.put o.dst v K
    | false => False
  | .unOp op _ x => vun op (evl s.env x) fun v => s.put o.dst v K
  | .convert r d x => match intT (T r) with
    | true => vconv T d (evl s.env x) fun v => s.put o.dst v K
    | false => False
  | .makeSlice t l c => vmake T t (evl s.env l) (evl s.env c) s o.dst K
  | .slice t x lo hi mx => vfz (evl s.env x).slcs s [] fun s _ => vslice T t (evl s.env x) (lo.map (evl s.env)) (hi.map (evl s.env)) (mx.map (evl s.env)) fun v => s.put o.dst v K
  | .fieldAddr t x f => vfieldAddr T t (evl s.env x) f fun v => s.put o.dst v K
  | .field t x f => vfield T t (evl s.env x) f fun v => s.put o.dst v K
  | .indexAddr t x ix => vindexAddr T (lookH s.hp) t (evl s.env x) (evl s.env ix) fun v => s.put o.dst v K
  | .extract x i => match evl s.env x with
    | .tup vs => match nthV vs i with | some v => s.put o.dst v K | none => False
    | _ => False
  | .makeFunc fn first captured => match fn, first.toList with
    | .func f, [] => s.put o.dst (.fn f (evs s.env captured.toList)) K
    | _, _ => False
  | .call c => match c.callee with
    | .builtin b => vbuiltin T b c.argTypes.toList (evs s.env c.args.toList) s o.dst K
    | .value f => match evl s.env f with
      | .fn g caps => vcall P g (evs s.env c.args.toList ++ caps) s o.dst K
      | _ => False
    | .invoke _ _ => False
  | _ => False

/-- the slot of the operation j -/
def slotOf (ops : List Oper) (j : Nat) : Option Nat :=
  match ops[j]? with
  | some o => o.dst
  | none => none

/-- an operation, if its guard lets it -/
def vguard (T : TT) (P : Program) (ops : List Oper) (o : Oper) (s : S) (K : S → Prop) : Prop :=
  match o.guard with
  | none => vop T P o s K
  | some (j, want) => match slotOf ops j with
    | none => False
    | some d => match look s.env d with
      | .tt => match want with | true => vop T P o s K | false => s.put o.dst (.tup []) K
      | .ff => match want with | true => s.put o.dst (.tup []) K | false => vop T P o s K
      | .c (.bool p) => vif p
        (S.put s (some d) .tt fun s => match want with
          | true => vop T P o s K
          | false => S.put s o.dst (.tup []) K)
        (S.put s (some d) .ff fun s => match want with
          | true => S.put s o.dst (.tup []) K
          | false => vop T P o s K)
      | .tup _ => s.put o.dst (.tup []) K
      | _ => False

abbrev vops (T : TT) (P : Program) (ops : List Oper) : List Oper → S → (S → Prop) → Prop
  | [], s, K => K s
  | o :: t, s, K => vguard T P ops o s fun s => vops T P ops t s K

def V.norm : V → V
  | .tt => .c (.bool true)
  | .ff => .c (.bool false)
  | v => v

def normL : List V → List V
  | [] => []
  | v :: t => v.norm :: normL t

def V.nrm : V → V
  | .tup xs => .tup (normL xs)
  | .agg xs => .agg (normL xs)
  | v => v.norm

/-- the slots of env' read the same in env -/
def entE (r : Nat → Nat) (env : List (Nat × V)) : List (Nat × V) → Prop
  | [] => True
  | (j, v) :: t => (look env j).nrm = (v.ren r).nrm ∧ entE r env t

def O.nrm : O → O
  | .box pre bs post => .box (normL pre) bs (normL post)
  | .arr x => .arr x
  | .hol x hi vs => .hol x hi (normL vs)
  | .deep p f x hs => .deep p f x (mapHs normL hs)

def entH (r : Nat → Nat) (hp : List (Nat × O)) : List (Nat × O) → Prop
  | [] => True
  | (i, o) :: t => (lookH hp (r i)).map O.nrm = some ((o.map (renL r)).nrm) ∧ entH r hp t

def idsLtE (n : Nat) : List (Nat × V) → Bool
  | [] => true
  | (_, v) :: t => match v.idsLt n with | true => idsLtE n t | false => false

def isBoxH (hp : List (Nat × O)) (i : Nat) : Bool :=
  match lookH hp i with
  | some (.box _ _ _) => true
  | _ => false

def stayIn (n0 : Nat) (r : Nat → Nat) : List (Nat × O) → Bool
  | [] => true
  | (i, o) :: t => match o.isBox with
    | false => stayIn n0 r t
    | true => match Nat.ble n0 i with
      | true => stayIn n0 r t
      | false => match Nat.beq (r i) i with | true => stayIn n0 r t | false => false

/-- an array of which one element is told cell by cell, all of them pure: an array -/
def O.cnv : O → O
  | .hol x hi vs => match x.setRow hi (.agg vs) with | some y => .arr y | none => .hol x hi vs
  | o => o
def cnvH : List (Nat × O) → List (Nat × O)
  | [] => []
  | (i, o) :: t => (i, o.cnv) :: cnvH t

/-- Steps that change nothing but what is told. -/
inductive Gh where
  | fz (ids : List Nat)
  | cnv
  | dp (id : Nat)
  | op (id i : Nat)
  | cl (id : Nat)
  | th (id : Nat)
  | ad (id : Nat)
  | pin (id : Nat)
  | un (id : Nat)
  | hd (id : Nat)
  | kp (l : List Nat)
  | nl (d : Nat) (dq : Bool) (z : C)

def openRow : Nat → List C → List V
  | _, [] => []
  | k, c :: t => match c with
    | .nums _ _ => .slc k :: openRow (k + 1) t
    | .int k' n => .c (.int k' n) :: openRow (k + 1) t
    | .bool b => .c (.bool b) :: openRow (k + 1) t
    | _ => .any :: openRow (k + 1) t
def openObs : Nat → List C → List (Nat × O)
  | _, [] => []
  | k, c :: t => match c with
    | .nums kk xs => (k, .arr (.nums kk xs)) :: openObs (k + 1) t
    | _ => openObs (k + 1) t

/-- what lies in the cells of an element that is shut -/
def shutRow (lk : Nat → Option O) : List V → List V
  | [] => []
  | u :: t => match u with
    | .slc a => (match lk a with
      | some (.arr (.nums .i64 xs)) => .c (.nums .i64 xs)
      | some (.deep _ 0 (.nums .i64 xs) []) => .c (.nums .i64 xs)
      | _ => .any) :: shutRow lk t
    | u => u :: shutRow lk t
def shutIds : List V → List Nat
  | [] => []
  | u :: t => match u with
    | .slc a => a :: shutIds t
    | _ => shutIds t
/-- may they be cells of an element whose slices are its own -/
def shutOk (lk : Nat → Option O) : List V → Bool
  | [] => true
  | u :: t => match u with
    | .slc a => (match lk a with
      | some (.arr (.nums .i64 _)) => shutOk lk t
      | some (.deep _ 0 (.nums .i64 _) []) => shutOk lk t
      | _ => false)
    | .nil => shutOk lk t
    | .c (.int _ _) => shutOk lk t
    | _ => false
def C.isNest : C → Bool
  | .pgs _ => true
  | .lks _ => true
  | .numss _ => true
  | _ => false
def C.setEl (x : C) (i : Nat) (us : List V) : Option C :=
  match us with
  | [u] => x.setRow i u
  | us => x.setRow i (.agg us)

def forgetS : List Nat → S → S
  | [], s => s
  | a :: t, s => forgetS t (s.forget a)
def dropS : List Nat → List (Nat × O) → List (Nat × O)
  | [], hp => hp
  | a :: t, hp => dropS t (dropH hp a)

def keysLe (f : Nat) : List (Nat × List V) → Prop
  | [] => True
  | (i, _) :: t => i ≤ f ∧ keysLe f t

def dropN (i : Nat) : List Nat → List Nat
  | [] => []
  | j :: t => match Nat.beq j i with | true => dropN i t | false => j :: dropN i t
/-- the slots of l -/
def keepE (l : List Nat) : List (Nat × V) → List (Nat × V)
  | [] => []
  | (i, v) :: t => match memN i l with | true => (i, v) :: keepE (dropN i l) t | false => keepE l t

def vgh1 (n0 : Nat) (a : Gh) (s : S) (K : S → Prop) : Prop :=
  match a with
  | .fz ids => vfz ids s [] fun s _ => K s
  | .cnv => s.withHp (cnvH s.hp) K
  | .dp id => match lookH s.hp id with
    | some (.arr x) => match x.isNums with
      | true => s.withHp (setH s.hp id (.deep false 0 x [])) K
      | false => False
    | _ => False
  | .op id i => match lookH s.hp id with
    | some (.deep p f x hs) => vneed (f ≤ i ∧ i < x.len) (vhole i [] hs (fun _ _ _ _ => False)
        (S.force { s with nx := s.nx + x.stride, hp := openObs s.nx (x.row i) ++ setH s.hp id (.deep p f x (hs ++ [(i, openRow s.nx (x.row i))])) } K))
    | _ => False
  | .cl id => match lookH s.hp id with
    | some (.deep p f x ((i, us) :: t)) => match shutOk (lookH s.hp) us with
      | true => match (match x.isNest with | true => C.setEl x i (shutRow (lookH s.hp) us) | false => none) with
        | some x' => match nodupN (id :: shutIds us) with
          | true => vhole i [] t (fun _ _ _ _ => False) (S.force { forgetS (shutIds us) { s with hp := setH s.hp id (.deep p f x' t) } with hp := dropS (shutIds us) (forgetS (shutIds us) { s with hp := setH s.hp id (.deep p f x' t) }).hp } K)
          | false => False
        | none => False
      | false => False
    | _ => False
  | .th id => match lookH s.hp id with
    | some (.deep false 0 x []) => s.withHp (setH s.hp id (.arr x)) K
    | _ => False
  | .ad id => match lookH s.hp id with
    | some (.deep p f x hs) => vneed (keysLe f hs) (s.withHp (setH s.hp id (.deep p (f + 1) x [])) K)
    | _ => False
  | .pin id => match lookH s.hp id with
    | some (.deep false f x hs) => match Nat.ble n0 id with
      | true => s.withHp (setH s.hp id (.deep true f x hs)) K
      | false => False
    | _ => False
  | .un id => match lookH s.hp id with
    | some (.deep true f x hs) => s.withHp (setH s.hp id (.deep false f x hs)) K
    | _ => False
  | .hd id => match lookH s.hp id with
    | some (.hol x hi vs) => match Nat.beq x.len 1 with
      | true => s.withHp (setH s.hp id (.deep false 0 x [(hi, vs)])) K
      | false => False
    | _ => False
  | .kp l => S.force { s with env := keepE l s.env } K
  | .nl d dq z => match look s.env d with
    | .nil => match z.isSl, Nat.beq z.len 0 with
      | true, true => match dq with
        | true => K ⟨s.nt, s.nx + 1, (d, .slc s.nx) :: s.env, (s.nx, .deep false 0 z []) :: s.hp⟩
        | false => K ⟨s.nt, s.nx + 1, (d, .slc s.nx) :: s.env, (s.nx, .arr z) :: s.hp⟩
      | _, _ => False
    | _ => False

def vgh (n0 : Nat) : List Gh → S → (S → Prop) → Prop
  | [], s, K => K s
  | a :: t, s, K => vgh1 n0 a s fun s => vgh n0 t s K

/-- s holds all that s' tells, but for names -/
@[irreducible] def Ent (n0 : Nat) (s s' : S) : Prop :=
  ∃ (l : List Gh) (fz bk : List Nat), vgh n0 l s fun s => vfz fz s [] fun s _ =>
    entE (rnf bk) s.env s'.env ∧ entH (rnf bk) (cnvH s.hp) s'.hp ∧
    (s.nt = s'.nt ∧ nodupN bk = true ∧ Nat.ble s'.nx bk.length = true ∧ idsLtE s'.nx s'.env = true ∧ idsLtH s'.nx s'.hp = true ∧ nodupN (keysH s'.hp) = true ∧ stayIn n0 (rnf bk) s'.hp = true)

@[irreducible] def vloop (n0 : Nat) (body : (Exit → S → Prop) → S → Prop) (Q : Exit → S → Prop) (s : S) : Prop :=
  ∃ (ι : Type) (st : ι → S) (μ : ι → Nat) (i0 : ι), (∀ i, n0 ≤ (st i).nx) ∧ Ent n0 s (st i0) ∧
    ∀ i, body (fun e s' => match e with
      | .normal => ∃ i', Ent n0 s' (st i') ∧ μ i' < μ i
      | e => Q e s') (st i)

mutual
def V.ids : V → List Nat
  | .ptr i _ _ _ => [i]
  | .slc i => [i]
  | .agg xs => idsL xs
  | .tup xs => idsL xs
  | .fn _ xs => idsL xs
  | _ => []
def idsL : List V → List Nat
  | [] => []
  | x :: t => V.ids x ++ idsL t
end
def idsHs : List (Nat × List V) → List Nat
  | [] => []
  | (_, vs) :: t => idsL vs ++ idsHs t
def O.ids : O → List Nat
  | .box pre _ post => idsL pre ++ idsL post
  | .arr _ => []
  | .hol _ _ vs => idsL vs
  | .deep _ _ _ hs => idsHs hs

/-- What an operation of a region that draws its order does. In new the value names the new object 0. -/
inductive Ef where
  | val (v : V)
  | set (v : V) (id : Nat) (ob : O)
  | new (st : V) (hst : st.idsLt 1 = true) (ob : O)
  | app (id : Nat) (z : O)
  | fx (sets : List (Nat × O)) (news : List O) (rds : List Nat) (st : V) (hst : st.idsLt news.length = true)

/-- a value alone; a bool is told at once -/
def fin (v : V) (K : Ef → Prop) : Prop :=
  match v with
  | .c (.bool b) => vif b (K (.val .tt)) (K (.val .ff))
  | v => v.force fun v => K (.val v)

def vdStore (T : TT) (t : Nat) (lk : Nat → Option O) (a v : V) (K : Nat → O → Prop) : Prop :=
  match v.slcs with
  | _ :: _ => match a with
    | .ptr id i st j => match lk id with
      | some (.box pre bs post) =>
        match Nat.beq st 0 with
        | true =>
          match (match oneL v.cells with | true => Nat.beq v.cells.length (T t).size | false => false) with
          | true => match Nat.ble (j + (T t).size) pre.length with
            | true => K id (.box (setVs pre j v.cells) bs post)
            | false => False
          | false => False
        | false => False
      | some (.arr x) => match whOk x (T t).size j v.cells with
        | true => vneed (i < x.len ∧ st = x.stride) (K id (.hol x i v.cells))
        | false => False
      | some (.deep p f x hs) => vneed (i < x.len ∧ st = x.stride) (deepSt p f x hs (T t) i j v (K id))
      | _ => False
    | _ => False
  | [] =>
    match a with
    | .ptr id i st j =>
      match lk id with
      | some (.arr x) => vneed (i < x.len ∧ st = x.stride) (vset x (T t) i j v fun x' => K id (.arr x'))
      | some (.hol x hi vs) => vneed (i < x.len ∧ st = x.stride) (vor (i = hi)
          (match (match oneL v.cells with | true => Nat.beq v.cells.length (T t).size | false => false) with
            | true => match (match holOk x v.cells with | true => Nat.ble (j + (T t).size) vs.length | false => false) with
              | true => K id (.hol x hi (setVs vs j v.cells))
              | false => False
            | false => False)
          (vset x (T t) i j v fun x' => K id (.hol x' hi vs)))
      | some (.deep p f x hs) => vneed (i < x.len ∧ st = x.stride) (deepSt p f x hs (T t) i j v (K id))
      | some (.box pre bs post) =>
        match Nat.beq st 0 with
        | true =>
          match (match oneL v.cells with | true => Nat.beq v.cells.length (T t).size | false => false) with
          | true => match Nat.ble (j + (T t).size) pre.length with
            | true => K id (.box (setVs pre j v.cells) bs post)
            | false => False
          | false => False
        | false => False
      | none => False
    | _ => False

def enumO : Nat → List O → List (Nat × O)
  | _, [] => []
  | k, o :: t => (k, o) :: enumO (k + 1) t
def pureO : List O → Bool
  | [] => true
  | o :: t => match o with
    | .arr _ => pureO t
    | .deep _ _ _ [] => pureO t
    | _ => false
def boxO : List O → Bool
  | [] => true
  | o :: t => match o.isBox with | true => boxO t | false => false
/-- each of hin is there -/
def hasLk (r : Nat → Nat) (lk : Nat → Option O) : List (Nat × O) → Prop
  | [] => True
  | (i, o) :: t => lk (r i) = some (o.map (renL r)) ∧ hasLk r lk t

@[irreducible] def vcalld (P : Program) (f : Nat) (args : List V) (lk : Nat → Option O) (K : Ef → Prop) : Prop :=
  (∃ res : V, idsLtL 0 args = true ∧ idsLtL 0 [res] = true ∧ Spec P f 0 args [] 0 res [] ∧ fin res K) ∨
  (∃ res : V, res.scalar = true ∧ idsLtL 0 (lendL lk args) = true ∧ Spec P f 0 (lendL lk args) [] 0 res [] ∧ fin res K) ∨
  (∃ (z : C) (st : V) (hst : st.idsLt 1 = true), idsLtL 0 args = true ∧ Spec P f 0 args [] 1 st [(0, .arr z)] ∧ K (.new st hst (.arr z))) ∨
  (∃ (z : C) (st : V) (hst : st.idsLt 1 = true), okRes z lk args = true ∧ st.flat1 = true ∧ idsLtL 0 (lendL lk args) = true ∧ Spec P f 0 (lendL lk args) [] 1 st [(0, .arr z)] ∧ K (.new st hst (.arr z))) ∨
  (∃ (id : Nat) (fargs : List V) (pre post : List V) (bs : List Bool) (pre' post' : List V) (bs' : List Bool) (res : V),
    Spec P f 1 fargs [(0, .box pre bs post)] 1 res [(0, .box pre' bs' post')] ∧ lk id = some (.box pre bs post) ∧
    idsLtL 0 pre = true ∧ idsLtL 0 post = true ∧ idsLtL 0 pre' = true ∧ idsLtL 0 post' = true ∧ idsLtL 0 [res] = true ∧ idsLtL 1 fargs = true ∧
    renL (fun _ => id) fargs = args ∧ memN id (idsL args) = true ∧ K (.set res id (.box pre' bs' post'))) ∨
  (∃ (news : List O) (st : V) (hst : st.idsLt news.length = true), okObs lk args (enumO 0 news) = true ∧ st.flat1 = true ∧ idsLtL 0 (lendL lk args) = true ∧ Spec P f 0 (lendL lk args) [] news.length st (enumO 0 news) ∧ K (.fx [] news [] st hst)) ∨
  ∃ (rn : List Nat) (fargs : List V) (hin hos news : List O) (st : V) (hst : st.idsLt news.length = true),
    Spec P f rn.length fargs (enumO 0 hin) (rn.length + news.length) (st.ren fun j => rn.length + j) (enumO 0 hos ++ enumO rn.length news) ∧
    (hin.length = rn.length ∧ hos.length = rn.length ∧ nodupN rn = true ∧ boxO hin = true ∧ boxO hos = true ∧ pureO news = true ∧ idsLtL rn.length fargs = true ∧ idsLtH rn.length (enumO 0 hin) = true ∧ idsLtH rn.length (enumO 0 hos) = true) ∧
    renL (rnf rn) fargs = args ∧ hasLk (rnf rn) lk (enumO 0 hin) ∧ K (.fx (renH (rnf rn) (enumO 0 hos)) news rn st hst)

def vdAlloc (T : TT) (t : Nat) (K : Ef → Prop) : Prop :=
  match T t with
  | .prim z => K (.new (.ptr 0 0 (0) 0) rfl (.box [z] [] []))
  | .slice _ _ _ _ => K (.new (.ptr 0 0 (0) 0) rfl (.box [.nil] [] []))
  | .struct _ zs => K (.new (.ptr 0 0 (0) 0) rfl (.box zs [] []))
  | .arr n _ kd => K (.new (.ptr 0 0 ((kd.empty).stride) 0) rfl (.arr (kd.zeros n)))
  | .boxb _ pre n post => K (.new (.ptr 0 0 (0) 0) rfl (.box pre (List.replicate n false) post))
  | .bad => False

def vdApp (T : TT) (t : Nat) (lk : Nat → Option O) (base src : V) (K : Ef → Prop) : Prop :=
  match T t with
  | .slice _ sz _ kd =>
    view kd lk src fun y hy =>
      match base with
      | .nil => match C.app kd.empty y with
        | some z => match fitK kd z sz with
          | true => vneed (z.len ≤ 4294967296) (z.force fun z => K (.new (.slc 0) rfl (holO z 0 hy)))
          | false => False
        | none => False
      | .slc id => match lk id with
        | some (.arr x) => match C.app x y with
          | some z => match fitK kd z sz with
            | true => vneed (z.len ≤ 4294967296) (z.force fun z => K (.app id (holO z x.len (forgetHY id hy))))
            | false => False
          | none => False
        | some (.hol x hi vs) => match C.app x y, hy with
          | some z, none => match fitK kd z sz with
            | true => vneed (z.len ≤ 4294967296) (z.force fun z => K (.app id (.hol z hi (forgetL id vs))))
            | false => False
          | _, _ => False
        | some (.deep false f x hs) => match C.app x y, hy, Nat.beq y.len 1 with
          | some z, some (0, vs), true => match fitK kd z sz with
            | true => vneed (z.len ≤ 4294967296) (z.force fun z => K (.app id (.deep false f z (mapHs (forgetL id) hs ++ [(x.len, forgetL id vs)]))))
            | false => False
          | _, _, _ => False
        | _ => False
      | _ => False
  | _ => False

def vdLit (T : TT) (t len : Nat) (parts : List (Nat × V)) (K : C → Prop) (K2 : O → Prop) : Prop :=
  match T t with
  | .slice _ sz _ kd => match Nat.beq parts.length len with
    | true => match Nat.ble (len * sz) 1000000 with
      | true => match slcsL parts with
        | [] => match buildParts parts 0 kd.empty with
          | some x => match Nat.beq x.stride sz with
            | true => x.force K
            | false => False
          | none => False
        | _ => match parts with
          | [(0, .agg cs)] => match litOk kd.empty sz cs with
            | true => forceL cs fun cs => K2 (.hol (kd.zeros 1) 0 cs)
            | false => False
          | _ => False
      | false => False
    | false => False
  | _ => False

def vdMake (T : TT) (t : Nat) (l c : V) (K : Ef → Prop) : Prop :=
  match T t with
  | .slice _ sz _ kd => match l, c with
    | .c (.int .i64 a), .c (.int .i64 b) =>
      match Nat.beq kd.empty.stride sz with
      | true => vneed (0 ≤ a ∧ a = b ∧ a ≤ 4294967296) (match kd.nest with
        | false => K (.new (.slc 0) rfl (.arr (kd.zeros a.toNat)))
        | true => vch (K (.new (.slc 0) rfl (.arr (kd.zeros a.toNat)))) (K (.new (.slc 0) rfl (.deep false 0 (kd.zeros a.toNat) []))))
      | false => False
    | _, _ => False
  | _ => False

def eps (ev : Operand → V) : List (Nat × Operand) → List (Nat × V)
  | [] => []
  | (i, x) :: t => (i, ev x) :: eps ev t
def ess (ev : Operand → V) : List Operand → List V
  | [] => []
  | x :: t => ev x :: ess ev t

def vd (T : TT) (P : Program) (o : Oper) (ev : Operand → V) (lk : Nat → Option O) (K : Ef → Prop) : Prop :=
  match o.op with
  | .move x => fin (ev x) K
  | .assign x => fin (ev x) K
  | .pick c a b => match ev c with
    | .tt => fin (ev a) K
    | .ff => fin (ev b) K
    | _ => False
  | .alloc t => vdAlloc T t K
  | .box _ x => match (ev x).oneAgg with
    | true => K (.new (.ptr 0 0 (0) 0) rfl (.box (ev x).cells [] []))
    | false => False
  | .build t parts => match oneAggL (eps ev parts.toList) with
    | true => vbuild T t (eps ev parts.toList) fun v => fin v K
    | false => False
  | .buildSlice t len parts => vdLit T t len (eps ev parts.toList) (fun x => K (.val (.c x))) fun ob => K (.new (.slc 0) rfl ob)
  | .load t a => vload T lk t (ev a) fun v => fin v K
  | .store t a v => match (T t).ok with
    | true => vdStore T t lk (ev a) (ev v) fun id ob => K (.set (.tup []) id ob)
    | false => False
  | .nilCheck x => match ev x with
    | .iptr row => K (.val (.iptr row))
    | .ptr i a b c => K (.val (.ptr i a b c))
    | _ => False
  | .binOp op t x y _ => match vbinOk T t (ev x) with
    | true => vbin op (ev x) (ev y) fun v => fin v K
    | false => False
  | .unOp op _ x => vun op (ev x) fun v => fin v K
  | .convert r d x => match intT (T r) with
    | true => vconv T d (ev x) fun v => fin v K
    | false => False
  | .makeSlice t l c => vdMake T t (ev l) (ev c) K
  | .slice t x lo hi mx => vslice T t (ev x) (lo.map ev) (hi.map ev) (mx.map ev) fun v => fin v K
  | .fieldAddr t x f => vfieldAddr T t (ev x) f fun v => fin v K
  | .field t x f => vfield T t (ev x) f fun v => fin v K
  | .indexAddr t x ix => vindexAddr T lk t (ev x) (ev ix) fun v => fin v K
  | .extract x i => match ev x with
    | .tup vs => match nthV vs i with | some v => fin v K | none => False
    | _ => False
  | .call c => match c.callee with
    | .builtin b => match b, ess ev c.args.toList with
      | .len, [x] => match c.argTypes.toList with
        | t :: _ => match T t with
          | .slice _ _ _ _ => vlen lk x fun v => fin v K
          | _ => False
        | _ => False
      | .append, [x, y] => match c.argTypes.toList with
        | [t, t'] => match T t' with
          | .slice _ _ _ _ => vdApp T t lk x y K
          | _ => False
        | _ => False
      | .min, [x, y] => vmm false [x, y] fun v => fin v K
      | .max, [x, y] => vmm true [x, y] fun v => fin v K
      | _, _ => False
    | .value f => match ev f with
      | .fn g caps => vcalld P g (ess ev c.args.toList ++ caps) lk K
      | _ => False
    | .invoke _ _ => False
  | _ => False

/-- what the operation puts into its slot; k: the name of a new object -/
def Ef.val? (k : Nat) : Ef → V
  | .val v => v
  | .set v _ _ => v
  | .new st _ _ => st.ren fun _ => k
  | .app id _ => .slc id
  | .fx _ _ _ st _ => st.ren fun j => k + 20 * j

/-- new objects, by their names -/
def newsH (k : Nat) : Nat → List O → List (Nat × O)
  | _, [] => []
  | j, o :: t => (k + 20 * j, o) :: newsH k (j + 1) t
def setHs : List (Nat × O) → List (Nat × O) → List (Nat × O)
  | [], hp => hp
  | (i, o) :: t, hp => setHs t (setH hp i o)

def setD (dst : Option Nat) (v : V) (env : List (Nat × V)) : List (Nat × V) :=
  match dst with
  | some d => (d, v) :: env
  | none => env

def Ef.apply (k : Nat) (dst : Option Nat) (e : Ef) (s : S) : S :=
  match e with
  | .val v => ⟨s.nt, s.nx, setD dst v s.env, s.hp⟩
  | .set v id ob => ⟨s.nt, s.nx, setD dst v s.env, setH s.hp id ob⟩
  | .new st h ob => ⟨s.nt, s.nx, setD dst (Ef.val? k (.new st h ob)) s.env, (k, ob) :: s.hp⟩
  | .app id z => ⟨s.nt, s.nx, setD dst (.slc id) (mapE (V.forget id) s.env), setH (mapH (forgetL id) s.hp) id z⟩
  | .fx sets news rds st h => ⟨s.nt, s.nx, setD dst (Ef.val? k (.fx sets news rds st h)) s.env, newsH k 0 news ++ setHs sets s.hp⟩

/-- the same, for the walk -/
def Ef.applyM (k : Nat) (dst : Option Nat) (e : Ef) (s : S) : S :=
  match s with
  | ⟨nt, nx, env, hp⟩ => match e with
    | .val v => ⟨nt, nx, setD dst v env, hp⟩
    | .set v id ob => ⟨nt, nx, setD dst v env, setH hp id ob⟩
    | .new st h ob => ⟨nt, nx, setD dst (Ef.val? k (.new st h ob)) env, (k, ob) :: hp⟩
    | .app id z => ⟨nt, nx, setD dst (.slc id) (mapE (V.forget id) env), setH (mapH (forgetL id) hp) id z⟩
    | .fx sets news rds st h => ⟨nt, nx, setD dst (Ef.val? k (.fx sets news rds st h)) env, newsH k 0 news ++ setHs sets hp⟩

/-- what is asked of two operations of which neither waits for the other -/
structure Rec where
  names : List Nat
  dst : List Nat
  mn : List Nat
  rd : List Nat
  wr : List Nat
  nw : List Nat
  tot : Bool
  pu : Bool

def Op.quietName : Op → Bool
  | .move _ => true
  | .assign _ => true
  | .pick _ _ _ => true
  | .fieldAddr _ _ _ => true
  | .nilCheck _ => true
  | .build _ _ => true
  | .extract _ _ => true
  | .field _ _ _ => true
  | _ => false

def tmpsOf : List Operand → List Nat
  | [] => []
  | .tmp t :: r => t :: tmpsOf r
  | _ :: r => tmpsOf r

def guardSlot (ops : List Oper) (o : Oper) : List Nat :=
  match o.guard with
  | none => []
  | some (j, _) => match slotOf ops j with | some d => [d] | none => []

def Ef.wr : Ef → List Nat
  | .set _ id _ => [id]
  | .app id _ => [id]
  | .fx sets _ _ _ _ => keysH sets
  | _ => []
def Ef.nw (k : Nat) : Ef → List Nat
  | .new _ _ _ => [k]
  | .fx _ news _ _ _ => keysH (newsH k 0 news)
  | _ => []
def Ef.rds : Ef → List Nat
  | .fx _ _ rds _ _ => rds
  | _ => []
def idsO : List (Nat × O) → List Nat
  | [] => []
  | (_, o) :: t => o.ids ++ idsO t
def Ef.isNew : Ef → Bool
  | .new _ _ _ => true
  | .fx _ _ _ _ _ => true
  | _ => false
def Ef.tot : Ef → Bool
  | .app _ _ => true
  | _ => false
def Ef.obIds : Ef → List Nat
  | .set _ id ob => id :: ob.ids
  | .new _ _ ob => ob.ids
  | .app id ob => id :: ob.ids
  | .val _ => []
  | .fx sets news rds _ _ => keysH sets ++ idsO sets ++ idsO (enumO 0 news) ++ rds

def Ef.pu : Ef → Bool
  | .fx _ news _ _ _ => pureO news
  | _ => true

def recOf (ops : List Oper) (k : Nat) (o : Oper) (ev : Operand → V) (e : Ef) : Rec where
  names := o.dst.toList ++ tmpsOf o.op.operands.toList ++ guardSlot ops o
  dst := o.dst.toList
  mn := (match e.isNew with | true => [] | false => (e.val? k).ids) ++ e.obIds ++ idsL (ess ev o.op.operands.toList)
  rd := e.rds ++ (match Op.quietName o.op with | true => [] | false => idsL (ess ev o.op.operands.toList))
  wr := e.wr
  nw := e.nw k
  tot := e.tot
  pu := e.pu

def meets : List Nat → List Nat → Bool
  | [], _ => false
  | a :: t, l => match memN a l with | true => true | false => meets t l

/-- two operations, the first one ahead of the second one in the text; anc: the second one waits for the first one -/
def pairOk (anc : Bool) (a b : Rec) : Bool :=
  match anc with
  | true => match meets b.nw a.mn, meets a.nw b.nw with | false, false => true | _, _ => false
  | false =>
    !(meets a.nw b.nw) && !(meets a.dst b.names) && !(meets b.dst a.names) && !(meets a.wr b.rd) && !(meets b.wr a.rd) && !(meets a.wr b.wr) && !a.tot && !b.tot && !(meets a.nw b.mn) && !(meets b.nw a.mn)

/-- what each operation waits for, as a bit mask -/
def maskOf (after : List Edge) (acc : List Nat) : Nat :=
  match after with
  | [] => 0
  | e :: t => match Region.binds .any e with
    | true => (2 ^ e.on ||| acc.getD e.on 0) ||| maskOf t acc
    | false => maskOf t acc
def masks : List Oper → List Nat → List Nat
  | [], acc => acc
  | o :: t, acc => masks t (acc ++ [maskOf o.after.toList acc])

def edgesOk : List Oper → Nat → Bool
  | [], _ => true
  | o :: t, i => match o.after.toList.all (fun e => !(Region.binds .any e) || Nat.blt e.on i) with
    | true => edgesOk t (i + 1)
    | false => false

def allLt (n : Nat) : List Nat → Bool
  | [] => true
  | a :: t => match Nat.blt a n with | true => allLt n t | false => false

/-- an operation by itself; n: all names are below it -/
def Rec.own (n : Nat) (r : Rec) : Bool :=
  match r.pu with
  | true => match allLt n r.mn, allLt n r.nw with
    | true, true => match meets r.nw r.mn with | true => false | false => true
    | _, _ => false
  | false => false

def pairsOk (n : Nat) (ms : List Nat) : List Rec → Nat → List (Nat × Rec) → Bool
  | [], _, _ => true
  | r :: t, j, seen => match r.own n && seen.all (fun p => pairOk ((ms.getD j 0).testBit p.1) p.2 r) with
    | true => pairsOk n ms t (j + 1) (seen ++ [(j, r)])
    | false => false

/-- the operations in the text's order. i: the operation's number; nx0: new objects are named from here on; rs: what has been done -/
def vds (T : TT) (P : Program) (ops : List Oper) (nx0 : Nat) : List Oper → Nat → S → List Rec → (S → List Rec → Prop) → Prop
  | [], _, s, rs, K => K s rs
  | o :: t, i, s, rs, K =>
    let run : Prop := vd T P o (evl s.env) (lookH s.hp) fun e => (e.applyM (nx0 + i) o.dst s).force fun s' => vds T P ops nx0 t (i + 1) s' (rs ++ [recOf ops (nx0 + i) o (evl s.env) e]) K
    let skip : Prop := ((Ef.val (.tup [])).applyM (nx0 + i) o.dst s).force fun s' => vds T P ops nx0 t (i + 1) s' (rs ++ [recOf ops (nx0 + i) o (evl s.env) (.val (.tup []))]) K
    match o.guard with
    | none => run
    | some (j, want) => match slotOf ops j with
      | none => False
      | some d => match look s.env d with
        | .tt => match want with | true => run | false => skip
        | .ff => match want with | true => skip | false => run
        | .tup _ => skip
        | _ => False

def dstsOk (nt : Nat) : List Oper → Bool
  | [] => true
  | o :: t => match o.dst with
    | none => dstsOk nt t
    | some d => match Nat.blt d nt with | true => dstsOk nt t | false => false

/-- what is asked of a region that draws its order -/
def drawOk (nt nx : Nat) (ops : List Oper) (rs : List Rec) : Bool :=
  edgesOk ops 0 && dstsOk nt ops && Nat.ble ops.length 100 && pairsOk (nx + 100) (masks ops []) rs 0 []

/-- a region that draws its order -/
def vdraw (T : TT) (P : Program) (ops : List Oper) (s : S) (K : S → Prop) : Prop :=
  match s with
  | ⟨nt, nx, env, hp⟩ => vds T P ops nx ops 0 ⟨nt, nx + 100, env, hp⟩ [] fun s' rs => vneed (drawOk nt nx ops rs = true) (K s')

def hasNest : List (Nat × O) → Bool
  | [] => false
  | (_, o) :: t => match o with
    | .hol _ _ _ => true
    | .deep _ _ _ _ => true
    | _ => hasNest t

/-- ahead of a region and of the end: what is told may be told otherwise -/
@[irreducible] def vpreI (n0 : Nat) (s : S) (K : S → Prop) : Prop := ∃ l : List Gh, vgh n0 l s K
def vpre (n0 : Nat) (s : S) (K : S → Prop) : Prop :=
  match hasNest s.hp with
  | false => K s
  | true => vpreI n0 s K

def vwp (n0 : Nat) (T : TT) (P : Program) : Code → (Exit → S → Prop) → S → Prop
  | .skip, Q, s => Q .normal s
  | .region _ ops draw, Q, s => match draw with
    | true => vpre n0 s fun s => vdraw T P ops.toList s (Q .normal)
    | false => vpre n0 s fun s => vops T P ops.toList ops.toList s (Q .normal)
  | .seq a b, Q, s => vwp n0 T P a (fun e s => match e with | .normal => vwp n0 T P b Q s | e => Q e s) s
  | .cond c a b, Q, s => match evl s.env c with
    | .tt => vwp n0 T P a Q s
    | .ff => vwp n0 T P b Q s
    | .c (.bool p) => vif p (vwp n0 T P a Q s) (vwp n0 T P b Q s)
    | _ => False
  | .block id body, Q, s => vwp n0 T P body (fun e s => match e with
    | .exit i => match Nat.beq i id with | true => Q .normal s | false => Q (.exit i) s
    | e => Q e s) s
  | .loop body, Q, s => vloop n0 (fun Q s => vwp n0 T P body Q s) Q s
  | .exit id, Q, s => Q (.exit id) s
  | .ret, Q, s => Q .ret s
  | _, _, _ => False

def vresults (T : TT) (s : S) : List ResultVar → (List V → Prop) → Prop
  | [], K => K []
  | .tmp t :: rs, K => (look s.env t).force fun v => vresults T s rs fun vs => K (v :: vs)
  | .cell a t :: rs, K => vload T (lookH s.hp) t (look s.env a) fun v => vresults T s rs fun vs => K (v :: vs)

def oneOrTup : List V → V
  | [v] => v
  | vs => .tup vs

/-- the function ends with res and hout -/
@[irreducible] def vend (n0 m : Nat) (res : V) (hout : List (Nat × O)) (s : S) (v : V) : Prop :=
  ∃ fz bk : List Nat, vfz fz s [v] fun s vs =>
    (match vs with | [v] => v.nrm = (res.ren (rnf bk)).nrm | _ => False) ∧ entH (rnf bk) (cnvH s.hp) hout ∧
    (nodupN bk = true ∧ Nat.beq m bk.length = true ∧ res.idsLt m = true ∧ idsLtH m hout = true ∧ nodupN (keysH hout) = true ∧ stayIn n0 (rnf bk) hout = true)

def enumE : List V → Nat → List (Nat × V)
  | [], _ => []
  | v :: t, i => (i, v) :: enumE t (i + 1)

def vbody (T : TT) (P : Program) (fn : Func) (c : Code) (n : Nat) (args : List V) (hin : List (Nat × O)) (m : Nat) (res : V) (hout : List (Nat × O)) : Prop :=
  vwp n T P c (fun e s => match e with
    | .normal => vpre n s fun s => vresults T s fn.results.toList fun vs => vend n m res hout s (oneOrTup vs)
    | .ret => vpre n s fun s => vresults T s fn.results.toList fun vs => vend n m res hout s (oneOrTup vs)
    | _ => False) { nt := fn.ntmps, nx := n, env := enumE args 0, hp := hin }
end Go.VL
