/- An interpreter over plain data for the part of the language that this program uses, as a Lean function: no memory, no order. -/
import Derived.Calls
import Derived.KernelRfl
namespace Go.Proofs.YtllcebmbaejlhaaDoor.Ab
open Go

/-! ## Types and data -/
inductive Ty where
  | int (k : IntKind)
  | bool
  | str
  | list (t : Ty)
  | arr (n : Nat) (t : Ty)
  | prod (a b : Ty)
  | agg (t : Ty)
  deriving DecidableEq

def Ty.den : Ty → Type
  | .int _ => Int
  | .bool => Bool
  | .str => List UInt8
  | .list t => List t.den
  | .arr _ t => List t.den
  | .prod a b => a.den × b.den
  | .agg t => t.den

def Ty.dflt : (t : Ty) → t.den
  | .int _ => (0 : Int)
  | .bool => false
  | .str => []
  | .list _ => []
  | .arr n t => List.replicate n t.dflt
  | .prod a b => (a.dflt, b.dflt)
  | .agg t => t.dflt

/-- How many cells a value takes. -/
def Ty.sz : Ty → Nat
  | .int _ | .bool | .str | .list _ => 1
  | .arr n t => n * t.sz
  | .prod a b => a.sz + b.sz
  | .agg t => t.sz

def Ty.isAgg : Ty → Bool
  | .arr _ _ | .agg _ => true
  | _ => false

/-- No slice within. -/
def Ty.flat : Ty → Bool
  | .int _ | .bool | .str => true
  | .list _ => false
  | .arr _ t => t.flat
  | .prod a b => a.flat && b.flat
  | .agg t => t.flat

/-- No slice within an array. -/
def Ty.tame : Ty → Bool
  | .int _ | .bool | .str => true
  | .list t => t.tame
  | .arr _ t => t.flat
  | .prod a b => a.tame && b.tame
  | .agg t => t.tame

structure DV where
  t : Ty
  x : t.den

/-- A value seen at a type. -/
def DV.as (d : DV) (t : Ty) : Option t.den := if h : d.t = t then some (h ▸ d.x) else none

/-- Which types '==' compares here. -/
def Ty.cmp : Ty → Bool
  | .int _ | .bool | .str => true
  | .list _ | .arr _ _ => false
  | .prod a b => a.cmp && b.cmp
  | .agg t => t.cmp

def ieq (a b : Int) : Bool := decide (a = b)
def beqB (a b : Bool) : Bool := a == b
def seqB (a b : List UInt8) : Bool := a == b

def Ty.deq : (t : Ty) → t.den → t.den → Bool
  | .int _, a, b => ieq a b
  | .bool, a, b => beqB a b
  | .str, a, b => seqB a b
  | .list _, _, _ => false
  | .arr _ _, _, _ => false
  | .prod s t, a, b => s.deq a.1 b.1 && t.deq a.2 b.2
  | .agg t, a, b => t.deq a b

/-! ## The operations on data, as a variable: a symbolic run leaves them as they stand -/
def lim : Nat := 4294967296

structure Atoms where
  wr : IntKind → Int → Int
  add : Int → Int → Int
  sub : Int → Int → Int
  mul : Int → Int → Int
  quo : Int → Int → Int
  rem : Int → Int → Int
  band : IntKind → Int → Int → Int
  bor : IntKind → Int → Int → Int
  bxor : IntKind → Int → Int → Int
  shl : IntKind → Int → Int → Int
  shr : IntKind → Int → Int → Int
  lt : Int → Int → Bool
  le : Int → Int → Bool
  eq : Int → Int → Bool
  not : Bool → Bool
  beq : Bool → Bool → Bool
  all : Bool → Bool → Bool
  seq : List UInt8 → List UInt8 → Bool
  int : Nat → Int
  nat : Int → Nat
  len : {α : Type} → List α → Nat
  get : {α : Type} → List α → Nat → α → α
  set : {α : Type} → List α → Nat → α → List α
  app : {α : Type} → List α → List α → List α
  rep : {α : Type} → Nat → α → List α
  cut : {α : Type} → List α → Nat → Nat → List α
  ok : Nat → Bool
  ok2 : Nat → Nat → Bool
  byts : List Int → List UInt8
  byte : UInt8 → Int
  more : List UInt8 → Nat → Bool
  asc : List UInt8 → Nat → Bool
  succ : Nat → Nat
  min : Int → Int → Int
  max : Int → Int → Int
  deq : (t : Ty) → t.den → t.den → Bool
  same : Nat → Nat → Bool

def std : Atoms where
  wr k n := k.wrap n
  add a b := a + b
  sub a b := a - b
  mul a b := a * b
  quo a b := a.tdiv b
  rem a b := a.tmod b
  band k a b := k.wrap (BitVec.ofInt k.bits a &&& BitVec.ofInt k.bits b).toNat
  bor k a b := k.wrap (BitVec.ofInt k.bits a ||| BitVec.ofInt k.bits b).toNat
  bxor k a b := k.wrap (BitVec.ofInt k.bits a ^^^ BitVec.ofInt k.bits b).toNat
  shl k a b := k.wrap (a * 2 ^ (Min.min b.toNat k.bits))
  shr k a b := k.wrap (a.fdiv (2 ^ (Min.min b.toNat k.bits)))
  lt a b := decide (a < b)
  le a b := decide (a ≤ b)
  eq a b := decide (a = b)
  not b := !b
  beq a b := a == b
  all a b := a && b
  seq a b := a == b
  int n := n
  nat n := n.toNat
  len l := l.length
  get l i d := l.getD i d
  set l i x := l.set i x
  app a b := a ++ b
  rep n x := List.replicate n x
  cut l a b := (l.take b).drop a
  ok n := decide (n ≤ lim)
  ok2 m n := decide (m + n ≤ lim)
  byts l := l.map fun n => UInt8.ofNat n.toNat
  byte b := b.toNat
  more s i := decide (i < s.length)
  asc s i := decide ((s.getD i 0).toNat < 128)
  succ n := n + 1
  min a b := if b < a then b else a
  max a b := if a < b then b else a
  deq t a b := t.deq a b
  same i j := i == j

/-! ## Fields -/
def Ty.fld : Ty → Nat → Option Ty
  | .prod a b, k => bif k == 0 then some a else b.fld (k - 1)
  | .int i, k => bif k == 0 then some (.int i) else none
  | .bool, k => bif k == 0 then some .bool else none
  | .str, k => bif k == 0 then some .str else none
  | .list t, k => bif k == 0 then some (.list t) else none
  | .arr n t, k => bif k == 0 then some (.arr n t) else none
  | .agg t, k => bif k == 0 then some (.agg t) else none

def getF : (t : Ty) → Nat → t.den → Option DV
  | .prod a b, k, x => bif k == 0 then some ⟨a, x.1⟩ else getF b (k - 1) x.2
  | .int i, k, x => bif k == 0 then some ⟨.int i, x⟩ else none
  | .bool, k, x => bif k == 0 then some ⟨.bool, x⟩ else none
  | .str, k, x => bif k == 0 then some ⟨.str, x⟩ else none
  | .list t, k, x => bif k == 0 then some ⟨.list t, x⟩ else none
  | .arr n t, k, x => bif k == 0 then some ⟨.arr n t, x⟩ else none
  | .agg t, k, x => bif k == 0 then some ⟨.agg t, x⟩ else none

def setF : (t : Ty) → Nat → t.den → DV → Option t.den
  | .prod a b, k, x, d => bif k == 0 then (d.as a).map fun y => (y, x.2) else (setF b (k - 1) x.2 d).map fun y => (x.1, y)
  | .int i, k, _, d => bif k == 0 then d.as (.int i) else none
  | .bool, k, _, d => bif k == 0 then d.as .bool else none
  | .str, k, _, d => bif k == 0 then d.as .str else none
  | .list t, k, _, d => bif k == 0 then d.as (.list t) else none
  | .arr n t, k, _, d => bif k == 0 then d.as (.arr n t) else none
  | .agg t, k, _, d => bif k == 0 then d.as (.agg t) else none

/-- A path of fields. -/
def getP : (ks : List Nat) → (t : Ty) → t.den → Option DV
  | [], t, x => some ⟨t, x⟩
  | k :: ks, .agg t, x => (getF t k x).bind fun d => getP ks d.t d.x
  | _ :: _, _, _ => none

def setP : (ks : List Nat) → (t : Ty) → t.den → DV → Option t.den
  | [], t, _, d => d.as t
  | k :: ks, .agg t, x, d => (getF t k x).bind fun e => (setP ks e.t e.x d).bind fun y => setF t k x ⟨e.t, y⟩
  | _ :: _, _, _, _ => none

/-! ## Ownership: which slices of a value are this value's alone -/
inductive Fl where
  | sh                          -- none
  | ow (c : Fl)                 -- a slice whose array is owned; its elements by 'c'
  | owx (i : Nat) (c d : Fl)    -- the same, the i-th element by 'd'
  | pr (a b : Fl)
  | ho                          -- moved away: nothing is known
  deriving DecidableEq

def Ty.own : Ty → Fl
  | .int _ | .bool | .str => .sh
  | .list t => .ow t.own
  | .arr _ _ => .sh
  | .prod a b => .pr a.own b.own
  | .agg t => t.own


/-- Nothing owned, nothing moved away. -/
def Fl.plain : Fl → Bool
  | .sh => true
  | .ow _ => false
  | .owx _ _ _ => false
  | .pr a b => a.plain && b.plain
  | .ho => false

/-- Nothing moved away. -/
def Fl.noho : Fl → Bool
  | .sh => true
  | .ow c => c.noho
  | .owx _ _ _ => false
  | .pr a b => a.noho && b.noho
  | .ho => false

def Fl.fst : Fl → Fl
  | .pr a _ => a
  | .sh => .sh
  | .ow _ => .ho
  | .owx _ _ _ => .ho
  | .ho => .ho
def Fl.snd : Fl → Fl
  | .pr _ b => b
  | .sh => .sh
  | .ow _ => .ho
  | .owx _ _ _ => .ho
  | .ho => .ho
def Fl.isSh : Fl → Bool
  | .sh => true
  | .ow _ => false
  | .owx _ _ _ => false
  | .pr _ _ => false
  | .ho => false

/-- What is owned by 'f' may be taken for owned by 'g': the rest is let go. -/
def Fl.fits : Ty → Fl → Fl → Bool
  | .int _, f, g => f.isSh && g.isSh
  | .bool, f, g => f.isSh && g.isSh
  | .str, f, g => f.isSh && g.isSh
  | .list t, f, g =>
    match f, g with
    | .sh, .sh => true
    | .ow a, .sh => a.noho
    | .ow a, .ow b => Fl.fits t a b
    | .owx _ a d, .ow b => Fl.fits t a b && Fl.fits t d b
    | _, _ => false
  | .arr _ _, f, g => f.isSh && g.isSh
  | .prod a b, f, g => Fl.fits a f.fst g.fst && Fl.fits b f.snd g.snd
  | .agg t, f, g => Fl.fits t f g

/-- What both own. -/
def Fl.meet : Ty → Fl → Fl → Fl
  | .int _, _, _ => .sh
  | .bool, _, _ => .sh
  | .str, _, _ => .sh
  | .list t, f, g =>
    match f, g with
    | .ow a, .ow b => .ow (Fl.meet t a b)
    | _, _ => .sh
  | .arr _ _, _, _ => .sh
  | .prod a b, f, g => .pr (Fl.meet a f.fst g.fst) (Fl.meet b f.snd g.snd)
  | .agg t, f, g => Fl.meet t f g

/-- How the elements are owned. -/
def Fl.elt : Fl → Fl
  | .ow c => c
  | .sh => .sh
  | .owx _ _ _ => .ho
  | .pr _ _ => .ho
  | .ho => .ho

def flF : (t : Ty) → Nat → Fl → Fl
  | .prod _ b, k, f => bif k == 0 then f.fst else flF b (k - 1) f.snd
  | .int _, _, f => f
  | .bool, _, f => f
  | .str, _, f => f
  | .list _, _, f => f
  | .arr _ _, _, f => f
  | .agg _, _, f => f

def flP : (ks : List Nat) → (t : Ty) → Fl → Fl
  | [], _, f => f
  | k :: ks, .agg t, f => flP ks ((t.fld k).getD .bool) (flF t k f)
  | _ :: _, _, _ => .ho

def setFlF : (t : Ty) → Nat → Fl → Fl → Fl
  | .prod _ b, k, f, g => bif k == 0 then .pr g f.snd else .pr f.fst (setFlF b (k - 1) f.snd g)
  | .int _, _, _, g => g
  | .bool, _, _, g => g
  | .str, _, _, g => g
  | .list _, _, _, g => g
  | .arr _ _, _, _, g => g
  | .agg _, _, _, g => g

def setFlP : (ks : List Nat) → (t : Ty) → Fl → Fl → Fl
  | [], _, _, g => g
  | k :: ks, .agg t, f, g => setFlF t k f (setFlP ks ((t.fld k).getD .bool) (flF t k f) g)
  | _ :: _, _, _, _ => .ho

/-! ## States -/
/-- A place: a region, a path of fields in it, and perhaps an element and a path in that. -/
structure Pl where
  r : Nat
  f : List Nat
  ix : Option (Nat × List Nat)
  deriving DecidableEq

inductive AV where
  | un                                   -- anything
  | und                                  -- what an operation that was passed by leaves
  | val (t : Ty) (x : t.den)
  | emp                                  -- a slice of length and capacity 0
  | bor (p : Pl) (ver : Nat)             -- what stands at a place
  | addr (p : Pl) (ver : Nat)            -- a place's address
  | raddr (t : Ty) (x : t.den)           -- the address of something that nobody writes
  | clo (f : Nat) (caps : List (Pl × Nat))
  | rclo (f : Nat) (caps : List DV)
  | itr (r : Nat)
  | tup (vs : List AV)

/-- The stores that a region has met: at a path of a variable, or (none) at an element of one of its slices. -/
abbrev Log := List (Option (List Nat))

inductive Reg where
  | own (box : Bool) (t : Ty) (x : t.den) (fl : Fl) (log : Log)
  | iter (s : List UInt8) (pos : Nat)
  | dead
  | free                                 -- never used

structure St where
  ρ : Nat → AV
  h : Nat → Reg

def look {α : Type} (d : α) : List (Nat × α) → Nat → α
  | [], _ => d
  | (k, v) :: l, t => bif k == t then v else look d l t

def St.put (σ : St) (d : Option Nat) (v : AV) : St :=
  match d with
  | some t => { σ with ρ := fun k => bif k == t then v else σ.ρ k }
  | none => σ
def St.setR (σ : St) (r : Nat) (g : Reg) : St := { σ with h := fun k => bif k == r then g else σ.h k }

/-- One of two paths begins the other. -/
def laps : List Nat → List Nat → Bool
  | [], _ => true
  | _ :: _, [] => true
  | a :: x, b :: y => (a == b) && laps x y

/-- The last 'n' stores have not met the path. -/
def unmet (f : List Nat) : Log → Nat → Bool
  | [], _ => true
  | some q :: log, n => bif n == 0 then true else !laps f q && unmet f log (n - 1)
  | none :: log, n => bif n == 0 then true else unmet f log (n - 1)

/-- No store at a path since 'ver' has met the path. -/
def fresh (f : List Nat) (log : Log) (ver : Nat) : Bool := unmet f log (log.length - ver)

/-- What was loaded from a place still stands there. (An element of a slice: no store at all since.) -/
def stands (p : Pl) (log : Log) (ver : Nat) : Bool :=
  match p.ix with
  | none => fresh p.f log ver
  | some _ => log.length == ver

/-- The address of a place still is. -/
def standsA (p : Pl) (log : Log) (ver : Nat) : Bool :=
  match p.ix with
  | none => true
  | some _ => fresh p.f log ver

/-- The element at a place of a list. -/
def nth {α : Type} : List α → Nat → Option α
  | [], _ => none
  | x :: l, i => bif i == 0 then some x else nth l (i - 1)

def Reg.ver : Reg → Nat
  | .own _ _ _ _ log => log.length
  | _ => 0

/-- The type of what stands at the end of a path. -/
def typP : List Nat → Ty → Option Ty
  | [], t => some t
  | k :: ks, .agg t => (t.fld k).bind (typP ks)
  | _ :: _, _ => none

/-- The value and the ownership at a place of a region. -/
def Reg.at (A : Atoms) (g : Reg) (p : Pl) : Option (DV × Fl) :=
  match g with
  | .own _ t x fl _ =>
    (getP p.f t x).bind fun d =>
      match p.ix with
      | none => some (d, flP p.f t fl)
      | some (i, q) =>
        match d, flP p.f t fl with
        | ⟨.list u, xs⟩, .ow c => (getP q u (A.get xs i u.dflt)).map fun e => (e, flP q u c)
        | _, _ => none
  | _ => none

/-- The type at a place. -/
def Reg.typ (g : Reg) (p : Pl) : Option Ty :=
  match g with
  | .own _ t _ _ _ =>
    match p.ix with
    | none => typP p.f t
    | some (_, q) =>
      match typP p.f t with
      | some (.list u) => typP q u
      | _ => none
  | _ => none

/-! ## Calls -/
inductive Arg where
  | ro (d : DV)                          -- read alone
  | mu (d : DV)                          -- a slice of the caller's own, whose elements the callee may write
  | gi (d : DV)                          -- given away
  | mp (d : DV)                          -- the address of a variable of the caller's own
  | rp (d : DV)                          -- the address of something that nobody writes
  | fc (f : Nat) (caps : List DV)        -- a function value

inductive RV where
  | v (d : DV)                           -- the caller's own
  | s (d : DV)                           -- nobody writes it
  | p (d : DV)                           -- the address of a variable of the caller's own

abbrev Out := List RV × List DV
abbrev Specs := Nat → List Arg → Out → Prop
abbrev Types := Nat → Option Ty
/-- How a function takes an argument that is owned: 0 read, 1 its elements written, 2 given away, 3 let go for good (the result may share its arrays). -/
abbrev Modes := Nat → Nat → Nat

/-! ## What an operation does to the state: a small program -/
inductive Pr (α : Type) where
  | ret (a : α)
  | fail
  | get (t : Nat) (k : AV → Pr α)
  | reg (r : Nat) (k : Reg → Pr α)
  | set (r : Nat) (g : Reg) (k : Pr α)
  | need (b : Bool) (k : Pr α)
  | split (b : Bool) (p q : Pr α)
  | call (f : Nat) (as : List Arg) (k : Out → Pr α)

/-- Which operation has looked at, or written, which region or temporary. -/
structure Ent where
  i : Nat
  r : Nat
  w : Bool

/-- A temporary's mark. -/
def tc (t : Nat) : Nat := t + 100000000

def Pr.run {α : Type} (S : Specs) (i : Nat) : Pr α → St → List Ent → (α → St → List Ent → Prop) → Prop
  | .ret a, σ, l, K => K a σ l
  | .fail, _, _, _ => False
  | .get t k, σ, l, K => Pr.run S i (k (σ.ρ t)) σ (⟨i, tc t, false⟩ :: l) K
  | .reg r k, σ, l, K => Pr.run S i (k (σ.h r)) σ (⟨i, r, false⟩ :: l) K
  | .set r g k, σ, l, K => Pr.run S i k (σ.setR r g) (⟨i, r, true⟩ :: l) K
  | .need b k, σ, l, K => b = true ∧ Pr.run S i k σ l K
  | .split b p q, σ, l, K =>
    match b with
    | true => Pr.run S i p σ l K
    | false => Pr.run S i q σ l K
  | .call f as k, σ, l, K => ∃ out, S f as out ∧ Pr.run S i (k out) σ l K

section
variable {α β : Type}

def Pr.opt (o : Option β) (k : β → Pr α) : Pr α :=
  match o with
  | some x => k x
  | none => .fail

/-- The region that a borrowed value lies in. -/
def Pr.resB (p : Pl) (ver : Nat) (k : Reg → Pr α) : Pr α := .reg p.r fun
  | .own b t x fl log => bif stands p log ver then k (.own b t x fl log) else .fail
  | _ => .fail

/-- The same of an address. -/
def Pr.resA (p : Pl) (ver : Nat) (k : Reg → Pr α) : Pr α := .reg p.r fun
  | .own b t x fl log => bif standsA p log ver then k (.own b t x fl log) else .fail
  | _ => .fail

/-- A new region. -/
def Pr.new (r : Nat) (g : Reg) (k : Pr α) : Pr α := .reg r fun
  | .free => .set r g k
  | _ => .fail

/-- The list at a path, with its flag. -/
def Pr.list (t : Ty) (x : t.den) (fl : Fl) (f : List Nat) (k : (u : Ty) → List u.den → Fl → Pr α) : Pr α :=
  Pr.opt (getP f t x) fun d =>
    match d with
    | ⟨.list u, xs⟩ => k u xs (flP f t fl)
    | _ => .fail

/-- A value taken at a type, with what it owns. -/
def Pr.take (A : Atoms) (v : AV) (t : Ty) (k : t.den → Fl → Pr α) : Pr α :=
  match v with
  | .val u x => Pr.opt (DV.as ⟨u, x⟩ t) fun y => k y .sh
  | .emp =>
    match t, k with
    | .list u, k => k ([] : List u.den) (Ty.list u).own
    | _, _ => .fail
  | .bor p ver => Pr.resB p ver fun g =>
    match g with
    | .own box u x fl log =>
      match p.ix with
      | none => Pr.opt (getP p.f u x) fun d => Pr.opt (d.as t) fun y =>
        bif (flP p.f u fl).plain then k y .sh else .set p.r (.own box u x (setFlP p.f u fl .ho) (none :: log)) (k y (flP p.f u fl))
      | some (i, q) => Pr.list u x fl p.f fun v xs c =>
        match c with
        | .ow c => Pr.opt (getP q v (A.get xs i v.dflt)) fun d => Pr.opt (d.as t) fun y =>
          bif (flP q v c).plain then k y .sh else .set p.r (.own box u x (setFlP p.f u fl (.owx i c (setFlP q v c .ho))) (none :: log)) (k y (flP q v c))
        | _ => .fail
    | _ => .fail
  | _ => .fail

/-- A value that is let go for good: whoever holds it may share it. -/
def Pr.freeze (A : Atoms) (v : AV) (k : DV → Pr α) : Pr α :=
  match v with
  | .val u x => k ⟨u, x⟩
  | .bor p ver => Pr.resB p ver fun g => Pr.opt (g.at A p) fun (d, g') =>
    bif g'.noho then
      match g, p.ix with
      | .own box u x fl log, none => .set p.r (.own box u x (setFlP p.f u fl .sh) (none :: log)) (k d)
      | _, _ => .fail
    else .fail
  | _ => .fail

/-- A value laid at an element of a slice. -/
def Pr.layE (A : Atoms) (r : Nat) (box : Bool) (t : Ty) (x : t.den) (fl : Fl) (log : Log) (f : List Nat) (i : Nat) (q : List Nat) (d : DV) (fd : Fl) (k : Pr α) : Pr α :=
  Pr.list t x fl f fun u xs c => Pr.opt (setP q u (A.get xs i u.dflt) d) fun y => Pr.opt (setP f t x ⟨.list u, A.set xs i y⟩) fun z =>
    match c with
    | .ow c =>
      bif Fl.fits u c (Fl.meet u c (setFlP q u c fd)) && Fl.fits u (setFlP q u c fd) (Fl.meet u c (setFlP q u c fd)) then
        .set r (.own box t z (setFlP f t fl (.ow (Fl.meet u c (setFlP q u c fd)))) (none :: log)) k
      else .fail
    | .owx j c e => .need (A.same i j) (
      bif Fl.fits u c (Fl.meet u c (setFlP q u e fd)) && Fl.fits u (setFlP q u e fd) (Fl.meet u c (setFlP q u e fd)) then
        .set r (.own box t z (setFlP f t fl (.ow (Fl.meet u c (setFlP q u e fd)))) (none :: log)) k
      else .set r (.own box t z (setFlP f t fl (.owx i c (setFlP q u e fd))) (none :: log)) k)
    | _ => .fail

/-- A value laid at a place. -/
def Pr.layAt (A : Atoms) (p : Pl) (d : DV) (fd : Fl) (k : Pr α) : Pr α :=
  .reg p.r fun g =>
    match g with
    | .own box t x fl log =>
      match p.ix with
      | none => bif box then Pr.opt (setP p.f t x d) fun y => .set p.r (.own true t y (setFlP p.f t fl fd) (some p.f :: log)) k else .fail
      | some (i, q) => Pr.layE A p.r box t x fl log p.f i q d fd k
    | _ => .fail

/-- What the captured variables hold. -/
def Pr.caps (A : Atoms) : List (Pl × Nat) → (List DV → Pr α) → Pr α
  | [], k => k []
  | (p, ver) :: l, k => Pr.resA p ver fun g => Pr.opt (g.at A p) fun (d, fl) => bif fl.noho then Pr.caps A l fun ds => k (d :: ds) else .fail

/-- An argument that is moved or let go, or one that is looked at behind all moves. -/
inductive Pre where
  | arg (a : Arg)
  | av (v : AV)

def Pr.pre (A : Atoms) (v : AV) (t : Option Ty) (m : Nat) (k : Pre → Pr α) : Pr α :=
  match v with
  | .emp =>
    match t with
    | some (.list u) => bif m == 2 then k (.arg (.gi ⟨.list u, []⟩)) else k (.arg (.ro ⟨.list u, []⟩))
    | _ => .fail
  | .bor p ver =>
    bif m == 2 then Pr.opt t fun t => Pr.take A (.bor p ver) t fun y fl => bif Fl.fits t fl t.own then k (.arg (.gi ⟨t, y⟩)) else .fail
    else bif m == 3 then Pr.freeze A (.bor p ver) fun d => k (.arg (.ro d))
    else k (.av (.bor p ver))
  | v => k (.av v)

def Pr.pres (A : Atoms) (f : Nat) (md : Modes) (T : Types) : Nat → List AV → List Nat → (List Pre → Pr α) → Pr α
  | _, [], _, k => k []
  | i, v :: vs, ts, k => Pr.pre A v (ts.head?.bind T) (md f i) fun a => Pr.pres A f md T (i + 1) vs ts.tail fun as => k (a :: as)

/-- An argument, the regions that it is lent from, and the place that is to be written behind the call. -/
def Pr.seek (A : Atoms) (x : Pre) (m : Nat) (k : Arg → List Nat → List Pl → Pr α) : Pr α :=
  match x with
  | .arg a => k a [] []
  | .av (.val u x) => k (.ro ⟨u, x⟩) [] []
  | .av (.raddr u x) => k (.rp ⟨u, x⟩) [] []
  | .av (.rclo f c) => k (.fc f c) [] []
  | .av (.clo f c) => Pr.caps A c fun ds => k (.fc f ds) (c.map fun c => c.1.r) []
  | .av (.addr p ver) => Pr.resA p ver fun g =>
      match p.f, p.ix with
      | [], none => Pr.opt (g.at A p) fun (d, fl) => bif Fl.fits d.t fl d.t.own && d.t.tame then k (.mp d) [] [p] else .fail
      | _, _ => .fail
  | .av (.bor p ver) =>
      bif m == 0 then Pr.resB p ver fun g => Pr.opt (g.at A p) fun (d, fl) => bif fl.noho then k (.ro d) [p.r] [] else .fail
      else bif m == 1 then Pr.resB p ver fun g => Pr.opt (g.at A p) fun (d, fl) =>
        match p.ix, d with
        | none, ⟨.list u, xs⟩ => bif u.flat && Fl.fits (.list u) fl (Ty.list u).own then k (.mu ⟨.list u, xs⟩) [] [p] else .fail
        | _, _ => .fail
      else .fail
  | _ => .fail

def Pr.seeks (A : Atoms) (f : Nat) (md : Modes) : Nat → List Pre → (List Arg → List Nat → List Pl → Pr α) → Pr α
  | _, [], k => k [] [] []
  | i, x :: xs, k => Pr.seek A x (md f i) fun a rs ps => Pr.seeks A f md (i + 1) xs fun as rs' ps' => k (a :: as) (rs ++ rs') (ps ++ ps')

/-- The written place behind a call: one at most, and nothing is lent from there. -/
def Pr.back (lent : List Nat) : List Pl → List DV → Pr α → Pr α
  | [], [], k => k
  | [p], [d], k => bif lent.all fun r => !(r == p.r) then .reg p.r fun
      | .own box t x fl log => Pr.opt (setP p.f t x d) fun y =>
          .set p.r (.own box t y (setFlP p.f t fl d.t.own) (bif box then some p.f :: log else none :: log)) k
      | _ => .fail
    else .fail
  | _, _, _ => .fail

/-- A result as the caller holds it: 'r' is the region that is free for it. -/
def Pr.rv (lent : Bool) (r : Nat) (x : RV) (k : AV → Pr α) : Pr α :=
  match x with
  | .v ⟨t, x⟩ => bif t.flat then k (.val t x) else bif t.tame then Pr.new r (.own false t x t.own []) (k (.bor ⟨r, [], none⟩ 0)) else .fail
  | .s ⟨t, x⟩ => bif t.flat || !lent then k (.val t x) else .fail
  | .p ⟨t, x⟩ => bif t.tame then Pr.new r (.own true t x t.own []) (k (.addr ⟨r, [], none⟩ 0)) else .fail

def Pr.rvs (lent : Bool) : Nat → List RV → (List AV → Pr α) → Pr α
  | _, [], k => k []
  | r, x :: xs, k => Pr.rv lent r x fun v => Pr.rvs lent (r + 1000) xs fun vs => k (v :: vs)
end

def AV.ofList : List AV → AV
  | [v] => v
  | vs => .tup vs

/-! ## Operations -/
def cst : Value → AV
  | .int k n => bif decide (k.wrap n = n) then .val (.int k) n else .un
  | .bool b => .val .bool b
  | .string s => bif decide (s.size ≤ 1048576) then .val .str s.data.toList else .un
  | .slice none 0 0 => .emp
  | _ => .un

abbrev PrA := Pr AV

def Pr.op {α : Type} (x : Operand) (k : AV → Pr α) : Pr α :=
  match x with
  | .tmp t => .get t k
  | .const v => k (cst v)
  | .func f => k (.rclo f [])
  | .global _ => k .un

def Pr.opl {α : Type} : List Operand → (List AV → Pr α) → Pr α
  | [], k => k []
  | x :: xs, k => Pr.op x fun v => Pr.opl xs fun vs => k (v :: vs)

def Pr.opo {α : Type} (x : Option Operand) (k : Option AV → Pr α) : Pr α :=
  match x with
  | some x => Pr.op x fun v => k (some v)
  | none => k none

def arith (A : Atoms) (op : BinOp) (k : IntKind) (a b : Int) : PrA :=
  match op with
  | .add => .ret (.val (.int k) (A.wr k (A.add a b)))
  | .sub => .ret (.val (.int k) (A.wr k (A.sub a b)))
  | .mul => .ret (.val (.int k) (A.wr k (A.mul a b)))
  | .quo => .need (A.not (A.eq b 0)) (.ret (.val (.int k) (A.wr k (A.quo a b))))
  | .rem => .need (A.not (A.eq b 0)) (.ret (.val (.int k) (A.rem a b)))
  | .and => .ret (.val (.int k) (A.band k a b))
  | .or => .ret (.val (.int k) (A.bor k a b))
  | .xor => .ret (.val (.int k) (A.bxor k a b))
  | .eql => .ret (.val .bool (A.eq a b))
  | .neq => .ret (.val .bool (A.not (A.eq a b)))
  | .lss => .ret (.val .bool (A.lt a b))
  | .leq => .ret (.val .bool (A.le a b))
  | .gtr => .ret (.val .bool (A.lt b a))
  | .geq => .ret (.val .bool (A.le b a))
  | _ => .fail

def binop (A : Atoms) (T : Types) (op : BinOp) (xt : Nat) (x y : AV) : PrA :=
  match x, y with
  | .val (.int k) a, .val (.int k') b =>
    match op with
    | .shl => .need (A.le 0 b) (.ret (.val (.int k) (A.shl k a b)))
    | .shr => .need (A.le 0 b) (.ret (.val (.int k) (A.shr k a b)))
    | _ => bif decide (k = k') then arith A op k a b else .fail
  | .val .str a, .val .str b =>
    match op with
    | .add => .need (A.ok2 (A.len (a : List UInt8)) (A.len (b : List UInt8))) (.ret (.val .str (A.app (a : List UInt8) b)))
    | .eql => .ret (.val .bool (A.seq a b))
    | .neq => .ret (.val .bool (A.not (A.seq a b)))
    | _ => .fail
  | .val .bool a, .val .bool b =>
    bif decide (T xt = some .bool) then
      match op with
      | .eql => .ret (.val .bool (A.beq a b))
      | .neq => .ret (.val .bool (A.not (A.beq a b)))
      | _ => .fail
    else .fail
  | .val (.agg t) a, .val u b =>
    Pr.opt (DV.as ⟨u, b⟩ (.agg t)) fun b =>
    bif t.cmp && decide (T xt = some (.agg t)) then
      match op with
      | .eql => .ret (.val .bool (A.deq t a b))
      | .neq => .ret (.val .bool (A.not (A.deq t a b)))
      | _ => .fail
    else .fail
  | _, _ => .fail

def unop (A : Atoms) (op : UnOp) (x : AV) : PrA :=
  match op, x with
  | .not, .val .bool b => .ret (.val .bool (A.not b))
  | .neg, .val (.int k) n => .ret (.val (.int k) (A.wr k (A.sub 0 n)))
  | _, _ => .fail

/-- An index within bounds. -/
def inb (A : Atoms) (i : Int) (n : Nat) : Bool := A.all (A.le 0 i) (A.lt i (A.int n))

/-- The bounds of a slice expression. -/
def bnd (A : Atoms) (n : Nat) (lo hi : Option AV) : Option (Bool × Nat × Nat) :=
  match lo, hi with
  | none, none => some (true, 0, n)
  | some (.val (.int _) l), none => some (A.all (A.le 0 l) (A.le l (A.int n)), A.nat l, n)
  | none, some (.val (.int _) h) => some (A.all (A.le 0 h) (A.le h (A.int n)), 0, A.nat h)
  | some (.val (.int _) l), some (.val (.int _) h) => some (A.all (A.all (A.le 0 h) (A.le h (A.int n))) (A.all (A.le 0 l) (A.le l h)), A.nat l, A.nat h)
  | _, _ => none

/-- The upper bound of a slice expression is 0. -/
def zeroHi (A : Atoms) : Option AV → Bool
  | some (.val (.int _) h) => A.eq h 0
  | _ => false

section
variable {α : Type}

/-- The parts of a struct's literal. -/
def Pr.parts (A : Atoms) (t : Ty) : List (Nat × Operand) → t.den → Fl → (t.den → Fl → Pr α) → Pr α
  | [], x, fl, k => k x fl
  | (i, v) :: ps, x, fl, k => Pr.op v fun v => Pr.opt (t.fld i) fun u => Pr.take A v u fun y g => Pr.opt (setF t i x ⟨u, y⟩) fun x => Pr.parts A t ps x (setFlF t i fl g) k

def put {β : Type} : List β → Nat → β → List β
  | [], _, _ => []
  | x :: l, i, y => bif i == 0 then y :: l else x :: put l (i - 1) y

def fill {β : Type} : Nat → β → List β
  | 0, _ => []
  | n + 1, x => x :: fill n x

/-- The parts of a slice's or an array's literal: 'f' is what all of them own. -/
def Pr.elems (A : Atoms) (u : Ty) (f : Fl) : List (Nat × Operand) → List u.den → (List u.den → Pr α) → Pr α
  | [], xs, k => k xs
  | (i, v) :: ps, xs, k => Pr.op v fun v => Pr.take A v u fun y g => bif Fl.fits u g f then Pr.opt (nth xs i) fun _ => Pr.elems A u f ps (put xs i y) k else .fail

/-- What the parts of a literal own, all of them. -/
def Pr.common (u : Ty) : List (Nat × Operand) → Fl → (Fl → Pr α) → Pr α
  | [], f, k => k f
  | (_, v) :: ps, f, k => Pr.op v fun v =>
    match v with
    | .bor p _ => .reg p.r fun
      | .own _ t _ fl _ =>
        match p.ix with
        | none => Pr.common u ps (Fl.meet u f (flP p.f t fl)) k
        | some _ => .fail
      | _ => .fail
    | .emp => Pr.common u ps f k
    | _ => Pr.common u ps (Fl.meet u f .sh) k

def Pr.len (A : Atoms) (v : AV) (k : Nat → Pr α) : Pr α :=
  match v with
  | .val .str s => k (A.len (s : List UInt8))
  | .val (.list t) xs => k (A.len (xs : List t.den))
  | .emp => k 0
  | .bor p ver => Pr.resB p ver fun g => Pr.opt (g.at A p) fun
    | (⟨.list t, xs⟩, .ow _) => k (A.len (xs : List t.den))
    | (⟨.list t, xs⟩, .owx _ _ _) => k (A.len (xs : List t.den))
    | (⟨.list t, xs⟩, .sh) => k (A.len (xs : List t.den))
    | _ => .fail
  | _ => .fail

/-- The elements of a slice that is read: nothing within them is owned. -/
def Pr.elts (A : Atoms) (u : Ty) (v : AV) (k : List u.den → Pr α) : Pr α :=
  match v with
  | .val t xs => Pr.opt (DV.as ⟨t, xs⟩ (.list u)) k
  | .emp => k []
  | .bor p ver => bif u.flat then Pr.resB p ver fun g => Pr.opt (g.at A p) fun (d, fl) => bif fl.noho then Pr.opt (d.as (.list u)) k else .fail else .fail
  | _ => .fail
end

/-- The value is of this type. -/
def Pr.hasTyp (v : AV) (w : Ty) (k : PrA) : PrA :=
  match v with
  | .val t _ => bif decide (t = w) then k else .fail
  | .bor p _ => .reg p.r fun g => bif decide (g.typ p = some w) then k else .fail
  | .emp =>
    match w with
    | .list _ => k
    | _ => .fail
  | _ => .fail

/-- A new region for a result. -/
def Pr.fresh (r : Nat) (t : Ty) (x : t.den) (fl : Fl) : PrA := Pr.new r (.own false t x fl []) (.ret (.bor ⟨r, [], none⟩ 0))

/-- The elements of two slices, one behind the other. -/
def Pr.joined (A : Atoms) (r : Nat) (u : Ty) (xs ys : List u.den) (c d : Fl) : PrA :=
  bif Fl.fits u c (Fl.meet u c d) && Fl.fits u d (Fl.meet u c d) then
    .need (A.ok2 (A.len xs) (A.len ys)) (Pr.fresh r (.list u) (A.app xs ys) (.ow (Fl.meet u c d)))
  else .fail

/-- What is appended, and what of it is owned. -/
def Pr.more (A : Atoms) (u : Ty) (x : AV) (k : List u.den → Fl → PrA) : PrA :=
  bif u.flat then Pr.elts A u x fun ys => k ys u.own
  else Pr.take A x (.list u) fun ys g =>
    match g with
    | .ow d => k ys d
    | .sh => k ys .sh
    | _ => .fail

def Pr.append (A : Atoms) (r : Nat) (u : Ty) (s x : AV) : PrA :=
  match s with
  | .emp => Pr.more A u x fun ys d => Pr.joined A r u [] ys d d
  | .bor p ver => Pr.more A u x fun ys d => Pr.take A (.bor p ver) (.list u) fun xs g =>
    match g with
    | .ow c => Pr.joined A r u xs ys c d
    | _ => .fail
  | _ => .fail

def Pr.builtin (A : Atoms) (T : Types) (r : Nat) (b : Builtin) (ts : List Nat) (args : List AV) : PrA :=
  match b, args, ts with
  | .len, [x], t :: _ => Pr.opt (T t) fun w => Pr.hasTyp x w (Pr.len A x fun n => .ret (.val (.int .i64) (A.int n)))
  | .min, [.val (.int k) a, .val (.int k') b], _ => bif decide (k = k') then .ret (.val (.int k) (A.min a b)) else .fail
  | .max, [.val (.int k) a, .val (.int k') b], _ => bif decide (k = k') then .ret (.val (.int k) (A.max a b)) else .fail
  | .append, [s, x], [t, t'] =>
    match T t with
    | some (.list u) => bif decide (T t' = some (.list u)) then Pr.append A r u s x else .fail
    | _ => .fail
  | _, _, _ => .fail

def Pr.index (A : Atoms) (x : AV) (i : Int) : PrA :=
  match x with
  | .val .str s => .need (inb A i (A.len (s : List UInt8))) (.ret (.val (.int .u8) (A.byte (A.get (s : List UInt8) (A.nat i) 0))))
  | .val (.arr n u) xs => .need (inb A i n) (.ret (.val u (A.get (xs : List u.den) (A.nat i) u.dflt)))
  | _ => .fail

def Pr.indexAddr (A : Atoms) (x : AV) (i : Int) : PrA :=
  match x with
  | .val (.list u) xs => .need (inb A i (A.len (xs : List u.den))) (.ret (.raddr u (A.get (xs : List u.den) (A.nat i) u.dflt)))
  | .bor p ver => Pr.resB p ver fun g => 
    match p.ix, g with
    | none, .own _ t x fl log => Pr.list t x fl p.f fun u xs c =>
      match c with
      | .ow _ => .need (inb A i (A.len xs)) (.ret (.addr { p with ix := some (A.nat i, []) } log.length))
      | .owx _ _ _ => .need (inb A i (A.len xs)) (.ret (.addr { p with ix := some (A.nat i, []) } log.length))
      | .sh => .need (inb A i (A.len xs)) (.ret (.raddr u (A.get xs (A.nat i) u.dflt)))
      | _ => .fail
    | some _, g => Pr.opt (g.at A p) fun
      | (⟨.list u, xs⟩, .sh) => .need (inb A i (A.len (xs : List u.den))) (.ret (.raddr u (A.get (xs : List u.den) (A.nat i) u.dflt)))
      | _ => .fail
    | _, _ => .fail
  | _ => .fail

/-- An element's address. An array's variable is let go for good. -/
def Pr.idx (A : Atoms) (x : AV) (w : Ty) (i : Int) : PrA :=
  match x, w with
  | .addr p ver, .arr n u => Pr.resA p ver fun g =>
    match p.f, p.ix, g with
    | [], none, .own _ t xs fl _ => Pr.opt (DV.as ⟨t, xs⟩ (.arr n u)) fun ys => bif fl.plain then .need (inb A i n) (.set p.r .dead (.ret (.raddr u (A.get (ys : List u.den) (A.nat i) u.dflt)))) else .fail
    | _, _, _ => .fail
  | x, w => Pr.hasTyp x w (Pr.indexAddr A x i)

def Pr.slice (A : Atoms) (r : Nat) (own : Bool) (w : Ty) (x : AV) (lo hi mx : Option AV) : PrA :=
  match x, mx with
  | .val .str s, none => Pr.opt (bnd A (A.len (s : List UInt8)) lo hi) fun (c, b) => .need c (.ret (.val .str (A.cut (s : List UInt8) b.1 b.2)))
  | .val (.list u) xs, none => Pr.opt (bnd A (A.len (xs : List u.den)) lo hi) fun (c, b) => .need c (.ret (.val (.list u) (A.cut (xs : List u.den) b.1 b.2)))
  | .emp, none => Pr.opt (bnd A 0 lo hi) fun (c, _) => .need c (.ret .emp)
  | .bor p ver, none => Pr.len A (.bor p ver) fun n => Pr.opt (bnd A n lo hi) fun (c, b) => .need c <|
      match w with
      | .list u =>
        bif own then Pr.take A (.bor p ver) (.list u) fun xs fl =>
            match fl with
            | .ow c => Pr.fresh r (.list u) (A.cut (xs : List u.den) b.1 b.2) (.ow c)
            | _ => .fail
        else Pr.freeze A (.bor p ver) fun d => Pr.opt (d.as (.list u)) fun xs => .ret (.val (.list u) (A.cut (xs : List u.den) b.1 b.2))
      | _ => .fail
  | .val .str _, some _ => .fail
  | x, some (.val (.int _) m) => Pr.len A x fun n => Pr.opt (bnd A n lo hi) fun (c, _) => .need (A.all c (A.all (A.eq m 0) (zeroHi A hi))) (.ret .emp)
  | _, _ => .fail

def Pr.convert (A : Atoms) (T : Types) (s t : Nat) (x : AV) : PrA :=
  match T s, T t, x with
  | some _, some (.int k), .val (.int _) n => .ret (.val (.int k) (A.wr k n))
  | some .str, some .str, .val .str s => .ret (.val .str s)
  | some (.list (.int .u8)), some .str, x => Pr.elts A (.int .u8) x fun xs => .need (A.ok (A.len xs)) (.ret (.val .str (A.byts xs)))
  | _, _, _ => .fail

/-- What a function value has captured: places, or what stands. -/
def Pr.capd (A : Atoms) (c : Sum (List (Pl × Nat)) (List DV)) {α : Type} (k : List DV → List Nat → Pr α) : Pr α :=
  match c with
  | .inl l => Pr.caps A l fun ds => k ds (l.map fun c => c.1.r)
  | .inr ds => k ds []

def Pr.doCall (A : Atoms) (T : Types) (md : Modes) (r : Nat) (f : Nat) (vs : List AV) (ts : List Nat) (c : Sum (List (Pl × Nat)) (List DV)) : PrA :=
  Pr.pres A f md T 0 vs ts fun xs => Pr.seeks A f md 0 xs fun as rs ps => Pr.capd A c fun ds rs' =>
    .call f (as ++ ds.map .rp) fun (res, ms) => Pr.back (rs ++ rs') ps ms (Pr.rvs (!(rs ++ rs').isEmpty) r res fun vs => .ret (AV.ofList vs))

def Pr.addrs {α : Type} : List AV → (List (Pl × Nat) → Pr α) → Pr α
  | [], k => k []
  | .addr p v :: l, k => Pr.addrs l fun ps => k ((p, v) :: ps)
  | _ :: _, _ => .fail

/-- What a place holds, as it is loaded. -/
def Pr.seen (A : Atoms) (p : Pl) (g : Reg) (u : Ty) : PrA :=
  match g.typ p with
  | some t =>
    bif decide (t = u) then
      match g.at A p with
      | some (⟨t, x⟩, fl) => bif fl.plain then .ret (.val t x) else .ret (.bor p g.ver)
      | none => .fail
    else .fail
  | none => .fail

/-- A place's part. -/
def Pl.part (p : Pl) (i : Nat) : Pl :=
  match p.ix with
  | none => { p with f := p.f ++ [i] }
  | some (j, q) => { p with ix := some (j, q ++ [i]) }

/-- A field of a struct's value. -/
def Pr.part (u : Ty) (y : u.den) (i : Nat) (k : DV → PrA) : PrA :=
  match u, y with
  | .agg w, y => Pr.opt (getF w i y) k
  | _, _ => .fail

/-- One operation. 'r': the region that is free for what it makes. -/
def step (A : Atoms) (T : Types) (md : Modes) (hint : List (Nat × Nat)) (r : Nat) (o : Oper) : PrA :=
  match o.op with
  | .move x => bif look 0 hint ((o.dst).getD 0) == 2 then Pr.op x fun v => Pr.freeze A v fun ⟨t, x⟩ => .ret (.val t x) else Pr.op x .ret
  | .assign x => bif look 0 hint ((o.dst).getD 0) == 2 then Pr.op x fun v => Pr.freeze A v fun ⟨t, x⟩ => .ret (.val t x) else Pr.op x .ret
  | .pick c a b => Pr.op c fun
    | .val .bool g => .split g (Pr.op a .ret) (Pr.op b .ret)
    | _ => .fail
  | .alloc t => Pr.opt (T t) fun u => Pr.new r (.own true u u.dflt u.own []) (.ret (.addr ⟨r, [], none⟩ 0))
  | .box t x => Pr.opt (T t) fun u => Pr.op x fun v => Pr.take A v u fun y fl => Pr.new r (.own true u y fl []) (.ret (.addr ⟨r, [], none⟩ 0))
  | .build t ps => Pr.opt (T t) fun
    | .agg u => Pr.parts A u ps.toList u.dflt u.own fun x fl => bif fl.plain then .ret (.val (.agg u) x) else Pr.fresh r (.agg u) x fl
    | .arr n u => bif u.flat then Pr.elems A u u.own ps.toList (fill n u.dflt) fun xs => .ret (.val (.arr n u) xs) else .fail
    | _ => .fail
  | .buildSlice t n ps => Pr.opt (T t) fun
    | .list u => Pr.common u ps.toList u.own fun f => bif Fl.fits u f f && decide (n * u.sz ≤ 16777216) then Pr.elems A u f ps.toList (fill n u.dflt) fun xs => Pr.fresh r (.list u) xs (.ow f) else .fail
    | _ => .fail
  | .load t a => Pr.opt (T t) fun u => Pr.op a fun
    | .addr p ver => Pr.resA p ver fun g => Pr.seen A p g u
    | .raddr w x => bif decide (w = u) then .ret (.val w x) else .fail
    | _ => .fail
  | .store t a x => Pr.opt (T t) fun u => Pr.op a fun a => Pr.op x fun v =>
    match a with
    | .addr p ver => Pr.take A v u fun y fl => Pr.resA p ver fun _ => Pr.layAt A p ⟨u, y⟩ fl (.ret .und)
    | _ => .fail
  | .nilCheck x => Pr.op x fun
    | .addr p v => Pr.resA p v fun _ => .ret (.addr p v)
    | .raddr u x => .ret (.raddr u x)
    | .rclo f c => .ret (.rclo f c)
    | .clo f c => .ret (.clo f c)
    | _ => .fail
  | .binOp op xt x y _ => Pr.op x fun x => Pr.op y fun y => binop A T op xt x y
  | .unOp op _ x => Pr.op x fun x => unop A op x
  | .convert s t x => Pr.op x fun x => Pr.convert A T s t x
  | .makeFunc (.func f) first caps => bif first.isEmpty then Pr.opl caps.toList fun vs => Pr.addrs vs fun l => .ret (.clo f l) else .fail
  | .makeSlice t l c => Pr.opt (T t) fun
    | .list u => Pr.op l fun l => Pr.op c fun c =>
      match l, c with
      | .val (.int .i64) n, .val (.int .i64) m => .need (A.all (A.eq n m) (A.all (A.le 0 n) (A.ok (A.nat n)))) (Pr.fresh r (.list u) (A.rep (A.nat n) u.dflt) (Ty.list u).own)
      | _, _ => .fail
    | _ => .fail
  | .slice t x lo hi mx => Pr.opt (T t) fun w => Pr.op x fun x => Pr.opo lo fun lo => Pr.opo hi fun hi => Pr.opo mx fun mx => Pr.hasTyp x w (Pr.slice A r (look 0 hint ((o.dst).getD 0) == 1) w x lo hi mx)
  | .fieldAddr t x i => Pr.opt (T t) fun u => Pr.op x fun
    | .addr p ver => Pr.resA p ver fun g => Pr.opt (g.typ p) fun t => bif decide (t = u) then Pr.opt (g.typ (p.part i)) fun _ => .ret (.addr (p.part i) ver) else .fail
    | .raddr w x => Pr.opt (DV.as ⟨w, x⟩ u) fun y => Pr.part u y i fun d => .ret (.raddr d.t d.x)
    | _ => .fail
  | .field t x i => Pr.opt (T t) fun u => Pr.op x fun
    | .val w x => Pr.opt (DV.as ⟨w, x⟩ u) fun y => Pr.part u y i fun d => .ret (.val d.t d.x)
    | .bor p ver => Pr.resB p ver fun g => Pr.opt (g.typ p) fun t => bif decide (t = u) then Pr.opt (g.typ (p.part i)) fun w => Pr.seen A (p.part i) g w else .fail
    | _ => .fail
  | .indexAddr t x i => Pr.opt (T t) fun w => Pr.op x fun x => Pr.op i fun
    | .val (.int _) n => Pr.idx A x w n
    | _ => .fail
  | .index t x i => Pr.op x fun x => Pr.op i fun
    | .val (.int _) n => bif decide (T t = some (match x with | .val t _ => t | _ => .bool)) then Pr.index A x n else .fail
    | _ => .fail
  | .range t x => bif decide (T t = some .str) then Pr.op x fun
    | .val .str s => Pr.new r (.iter s 0) (.ret (.itr r))
    | _ => .fail
    else .fail
  | .next it true => Pr.op it fun
    | .itr r => .reg r fun
      | .iter s pos => .split (A.more s pos)
          (.need (A.asc s pos) (.set r (.iter s (A.succ pos)) (.ret (.tup [.val .bool true, .val (.int .i64) (A.int pos), .val (.int .i32) (A.byte (A.get s pos 0))]))))
          (.ret (.tup [.val .bool false]))
      | _ => .fail
    | _ => .fail
  | .extract x i => Pr.op x fun
    | .tup vs => Pr.opt (nth vs i) .ret
    | _ => .fail
  | .call c =>
    match c.callee with
    | .builtin b => Pr.opl c.args.toList fun vs => Pr.builtin A T r b c.argTypes.toList vs
    | .value f => Pr.op f fun
      | .rclo f caps => Pr.opl c.args.toList fun vs => Pr.doCall A T md r f vs c.argTypes.toList (.inr caps)
      | .clo f caps => Pr.opl c.args.toList fun vs => Pr.doCall A T md r f vs c.argTypes.toList (.inl caps)
      | _ => .fail
    | _ => .fail
  | _ => .fail

/-- A parting of the ways. -/
def way (b : Bool) (p q : Prop) : Prop :=
  match b with
  | true => p
  | false => q
theorem way_intro {b : Bool} {p q : Prop} (h : b = true → p) (k : b = false → q) : way b p q := by
  cases b
  · exact k rfl
  · exact h rfl

def Holds {α : Type} (o : Option α) (K : α → Prop) : Prop :=
  match o with
  | some x => K x
  | none => False

/-- The region for what an operation makes. -/
def home (o : Oper) : Nat :=
  match o.dst with
  | some t => 1000000 + t
  | none => 999999

/-- What an operation yields goes to its temporary. -/
def fin (o : Oper) (i : Nat) (K : St → List Ent → Prop) (v : AV) (σ : St) (l : List Ent) : Prop :=
  match o.dst with
  | some t => K (σ.put (some t) v) (⟨i, tc t, true⟩ :: l)
  | none => K σ l

/-- One operation, with its guard. 'i': its place. -/
def op1 (A : Atoms) (T : Types) (md : Modes) (S : Specs) (hint : List (Nat × Nat)) (all : List Oper) (o : Oper) (i : Nat) (K : St → List Ent → Prop) (σ : St) (l : List Ent) : Prop :=
  match o.guard with
  | none => (step A T md hint (home o) o).run S i σ l (fin o i K)
  | some (j, want) =>
    match (nth all j).bind (·.dst) with
    | some t =>
      match σ.ρ t with
      | .val .bool g =>
        match g with
        | true =>
          match want with
          | true => (step A T md hint (home o) o).run S i (σ.put (some t) (.val .bool true)) (⟨i, tc t, false⟩ :: l) (fin o i K)
          | false => fin o i K .und (σ.put (some t) (.val .bool true)) (⟨i, tc t, false⟩ :: l)
        | false =>
          match want with
          | true => fin o i K .und (σ.put (some t) (.val .bool false)) (⟨i, tc t, false⟩ :: l)
          | false => (step A T md hint (home o) o).run S i (σ.put (some t) (.val .bool false)) (⟨i, tc t, false⟩ :: l) (fin o i K)
      | .und => fin o i K .und σ (⟨i, tc t, false⟩ :: l)
      | _ => False
    | none => False

/-- The operations of a region, in the order of the text. 'i': the place of the next one. -/
def ops (A : Atoms) (T : Types) (md : Modes) (S : Specs) (hint : List (Nat × Nat)) (all : List Oper) (K : St → List Ent → Prop) : List Oper → Nat → St → List Ent → Prop
  | [], _, σ, l => K σ l
  | o :: os, i, σ, l => op1 A T md S hint all o i (fun σ l => ops A T md S hint all K os (i + 1) σ l) σ l

/-- The j-th operation comes behind the i-th, by the edges. -/
def behind (all : List Oper) : List Unit → Nat → Nat → Bool
  | [], _, _ => false
  | _ :: n, i, j =>
    match nth all j with
    | some o => o.after.toList.any fun e => Region.binds .any e && (e.on == i || behind all n i e.on)
    | none => false

/-- All edges lead back. -/
def topo : List Oper → Nat → Bool
  | [], _ => true
  | o :: os, k => (o.after.toList.all fun e => !Region.binds .any e || decide (e.on < k)) && topo os (k + 1)

/-- Two looks at a region or a temporary, one of them a writing one, are those of one operation, or in an order. -/
def apart (all : List Oper) (l : List Ent) : Bool :=
  topo all 0 && l.all fun a => !a.w || l.all fun b => !(a.r == b.r) || a.i == b.i || behind all (all.map fun _ => ()) a.i b.i || behind all (all.map fun _ => ()) b.i a.i

inductive AEx where
  | normal
  | exit (id : Nat)
  | ret

/-- A state cut down to some temporaries and what they lead to: every region anew from 100 on, every log empty. -/
structure Kept where
  ρ : List (Nat × AV)
  h : List (Nat × Reg)
  n : Nat

def Kept.st (τ : Kept) : St := ⟨look .un τ.ρ, look .free τ.h⟩

/-- Where a borrowed value lies, if it stands. -/
def stood (σ : St) (p : Pl) (ver : Nat) : Option Pl :=
  match σ.h p.r with
  | .own _ _ _ _ log => bif stands p log ver then some p else none
  | _ => none

/-- Where a region is kept. -/
def spot (σ : St) (ren : List (Nat × Nat)) (τ : Kept) (r : Nat) : Option (Nat × List (Nat × Nat) × Kept) :=
  bif decide (r < 100) then
    match look .free τ.h r with
    | .own _ _ _ _ _ => some (r, ren, τ)
    | _ => none
  else bif look 0 ren r == 0 then
    match σ.h r with
    | .own b u x fl _ => some (τ.n, (r, τ.n) :: ren, { τ with h := τ.h ++ [(τ.n, .own b u x fl [])], n := τ.n + 1 })
    | .iter s pos => some (τ.n, (r, τ.n) :: ren, { τ with h := τ.h ++ [(τ.n, .iter s pos)], n := τ.n + 1 })
    | _ => none
  else some (look 0 ren r, ren, τ)

def Kept.add (τ : Kept) (t : Nat) (v : AV) : Kept := { τ with ρ := τ.ρ ++ [(t, v)] }

def keep (σ : St) : List Nat → List (Nat × Nat) → Kept → Option Kept
  | [], _, τ => some τ
  | t :: ts, ren, τ =>
    match σ.ρ t with
    | .val u x => keep σ ts ren (τ.add t (.val u x))
    | .raddr u x => keep σ ts ren (τ.add t (.raddr u x))
    | .rclo f c => keep σ ts ren (τ.add t (.rclo f c))
    | .emp => keep σ ts ren (τ.add t .emp)
    | .bor p v => (stood σ p v).bind fun p => (spot σ ren τ p.r).bind fun (n, ren, τ) => keep σ ts ren (τ.add t (.bor { p with r := n } 0))
    | .addr p _ =>
      match p.ix with
      | some _ => none
      | none => (spot σ ren τ p.r).bind fun (n, ren, τ) => keep σ ts ren (τ.add t (.addr { p with r := n } 0))
    | .itr r => (spot σ ren τ r).bind fun (n, ren, τ) => keep σ ts ren (τ.add t (.itr n))
    | _ => none

/-- The parameters' own regions, as they stand. -/
def base (σ : St) : List (Nat × Nat) → List (Nat × Reg)
  | [] => []
  | (n, _) :: ns =>
    match σ.h n with
    | .own b u x fl _ => (n, .own b u x fl []) :: base σ ns
    | _ => base σ ns

/-- A parameter's slice (1) lies where it lay; a parameter's variable (2) is there. -/
def headOK (k : Nat) (g : Reg) : Bool :=
  bif k == 1 then
    match g with
    | .own false _ _ _ log => fresh [] log 0
    | _ => false
  else bif k == 2 then
    match g with
    | .own _ _ _ _ _ => true
    | _ => false
  else true

/-- 'np': the parameters. -/
def trim (σ : St) (np : List (Nat × Nat)) (ts : List Nat) : Option Kept :=
  bif np.all fun i => decide (i.1 < 100) && headOK i.2 (σ.h i.1) then keep σ ts [] ⟨[], base σ np, 100⟩ else none

/-- How the parameters are to be kept. -/
def kinds (i : Nat) : List Arg → List (Nat × Nat)
  | [] => []
  | .mu _ :: l => (i, 1) :: kinds (i + 1) l
  | .mp _ :: l => (i, 2) :: kinds (i + 1) l
  | _ :: l => (i, 0) :: kinds (i + 1) l

/-- The truth of a test. -/
def truth (σ : St) (x : Operand) : Option (Bool × Option Nat) :=
  match x with
  | .tmp t =>
    match σ.ρ t with
    | .val .bool b => some (b, some t)
    | _ => none
  | .const (.bool b) => some (b, none)
  | _ => none

def exec (A : Atoms) (T : Types) (md : Modes) (S : Specs) (hint : List (Nat × Nat)) (np : List (Nat × Nat)) : Code → (AEx → St → Prop) → St → Prop
  | .skip, K, σ => K .normal σ
  | .region _ os draw, K, σ => ops A T md S hint os.toList (fun σ l =>
      match draw with
      | false => K .normal σ
      | true =>
        match apart os.toList l with
        | true => K .normal σ
        | false => False) os.toList 0 σ []
  | .seq a b, K, σ => exec A T md S hint np a (fun e σ =>
      match e with
      | .normal => exec A T md S hint np b K σ
      | e => K e σ) σ
  | .cond c a b, K, σ =>
    match truth σ c with
    | some (g, t) =>
      match g with
      | true => exec A T md S hint np a K (σ.put t (.val .bool true))
      | false => exec A T md S hint np b K (σ.put t (.val .bool false))
    | none => False
  | .block id c, K, σ => exec A T md S hint np c (fun e σ =>
      match e with
      | .exit j => bif j == id then K .normal σ else K (.exit j) σ
      | e => K e σ) σ
  | .loop c, K, σ => ∃ (ts : List Nat) (ι : Type) (hd : ι → Kept) (μ : ι → Nat) (i₀ : ι), trim σ np ts = some (hd i₀) ∧
      ∀ i, exec A T md S hint np c (fun e τ =>
        match e with
        | .normal => ∃ j, trim τ np ts = some (hd j) ∧ μ j < μ i
        | e => K e τ) (hd i).st
  | .exit id, K, σ => K (.exit id) σ
  | .ret, K, σ => K .ret σ
  | _, _, _ => False

/-! ## A whole function -/
/-- What a function's parameters hold at its begin. -/
def Arg.bind (i : Nat) : Arg → AV × Option Reg
  | .ro ⟨t, x⟩ => (.val t x, none)
  | .mu ⟨t, x⟩ => (.bor ⟨i, [], none⟩ 0, some (.own false t x t.own []))
  | .gi ⟨t, x⟩ => (.bor ⟨i, [], none⟩ 0, some (.own false t x t.own []))
  | .mp ⟨t, x⟩ => (.addr ⟨i, [], none⟩ 0, some (.own true t x t.own []))
  | .rp ⟨t, x⟩ => (.raddr t x, none)
  | .fc f c => (.rclo f c, none)

def begin (i : Nat) : List Arg → Kept
  | [] => ⟨[], [], 100⟩
  | a :: as =>
    match a.bind i with
    | (v, none) => ⟨(i, v) :: (begin (i + 1) as).ρ, (begin (i + 1) as).h, 100⟩
    | (v, some g) => ⟨(i, v) :: (begin (i + 1) as).ρ, (i, g) :: (begin (i + 1) as).h, 100⟩

/-- The results of a function. -/
def Pr.results {α : Type} (A : Atoms) (T : Types) : List (ResultVar × Nat) → (List RV → Pr α) → Pr α
  | [], k => k []
  | (.tmp t, ty) :: rs, k => .get t fun v =>
    match v with
    | .addr p ver =>
      match p.f, p.ix with
      | [], none => Pr.resA p ver fun g => Pr.opt (g.at A p) fun (d, fl) => bif Fl.fits d.t fl d.t.own then
          .set p.r .dead (Pr.results A T rs fun l => k (.p d :: l)) else .fail
      | _, _ => .fail
    | v => Pr.opt (T ty) fun u => Pr.take A v u fun y fl => bif Fl.fits u fl u.own then Pr.results A T rs fun l => k (.v ⟨u, y⟩ :: l)
        else bif fl.noho then Pr.results A T rs fun l => k (.s ⟨u, y⟩ :: l) else .fail
  | (.cell a ty, _) :: rs, k => Pr.opt (T ty) fun u => .get a fun
    | .addr p ver =>
      match p.ix with
      | none => Pr.resA p ver fun g => bif decide (g.typ p = some u) then Pr.take A (.bor p g.ver) u fun y fl => bif Fl.fits u fl u.own then Pr.results A T rs fun l => k (.v ⟨u, y⟩ :: l)
        else bif fl.noho then Pr.results A T rs fun l => k (.s ⟨u, y⟩ :: l) else .fail else .fail
      | some _ => .fail
    | _ => .fail

/-- What the written arguments hold at the end. -/
def Pr.muts {α : Type} : Nat → List Arg → (List DV → Pr α) → Pr α
  | _, [], k => k []
  | i, .mu d :: as, k => .reg i fun
    | .own box t x fl log => Pr.opt (DV.as ⟨t, x⟩ d.t) fun y => bif headOK 1 (.own box t x fl log) && Fl.fits t fl t.own then .set i .dead (Pr.muts (i + 1) as fun l => k (⟨d.t, y⟩ :: l)) else .fail
    | _ => .fail
  | i, .mp d :: as, k => .reg i fun
    | .own _ t x fl _ => Pr.opt (DV.as ⟨t, x⟩ d.t) fun y => bif Fl.fits t fl t.own then .set i .dead (Pr.muts (i + 1) as fun l => k (⟨d.t, y⟩ :: l)) else .fail
    | _ => .fail
  | i, _ :: as, k => Pr.muts (i + 1) as k

/-- All temporaries that are written are there. -/
def dstB (n : Nat) : Code → Bool
  | .region _ os _ => os.toList.all fun o =>
    match o.dst with
    | some t => decide (t < n)
    | none => true
  | .seq a b => dstB n a && dstB n b
  | .cond _ a b => dstB n a && dstB n b
  | .block _ c => dstB n c
  | .loop c => dstB n c
  | _ => true

/-- A function's text comes to what 'Q' says. -/
def Runs (A : Atoms) (T : Types) (md : Modes) (S : Specs) (hint : List (Nat × Nat)) (fn : Func) (args : List Arg) (Q : Out → Prop) : Prop :=
  match fn.body with
  | some c => (dstB fn.ntmps c && decide (args.length ≤ fn.ntmps) && decide (args.length < 100) && decide (fn.results.size = fn.resultTypes.size)) = true ∧
    exec A T md S hint (kinds 0 args) c (fun e σ =>
      match e with
      | .exit _ => False
      | _ => (Pr.results A T (fn.results.toList.zip fn.resultTypes.toList) fun rs => Pr.muts 0 args fun ms => .ret (rs, ms)).run S 0 σ [] fun out _ _ => Q out) (begin 0 args).st
  | none => False
end Go.Proofs.YtllcebmbaejlhaaDoor.Ab
