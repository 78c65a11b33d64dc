/- A compiler from the program's form to plain functions: its words, and the compiler itself. -/
import Derived.OrdersHeld
import Derived.Test.YtmmbedlegmbppaaDoorProg
namespace Go.Proofs.YtmmbedlegmbppaaDoor.R
open Go
/-! ### kinds of values -/
inductive Ty where
  | int (k : IntKind)
  | bool
  | str
  | sl (e : TypeId) (t : Ty)
  | pair (a b : Ty)
  | agg (t : Ty)
  | err
  deriving DecidableEq
@[reducible] def Ty.den : Ty → Type
  | .int _ => Int
  | .bool => Bool
  | .str => ByteArray
  | .sl _ t => List t.den
  | .pair a b => a.den × b.den
  | .agg t => t.den
  | .err => Bool
def Ty.size : Ty → Nat
  | .pair a b => a.size + b.size
  | .agg t => t.size
  | _ => 1
def Ty.dft : (t : Ty) → t.den
  | .int _ => (0 : Int)
  | .bool => false
  | .str => ByteArray.empty
  | .sl _ _ => []
  | .pair a b => (a.dft, b.dft)
  | .agg t => t.dft
  | .err => true
@[reducible] def Tup : List Ty → Type
  | [] => Unit
  | [t] => t.den
  | t :: u :: r => t.den × Tup (u :: r)
abbrev Ents (t u : Ty) : Type := List (t.den × u.den)
/-! ### the plain operations -/
def addI (k : IntKind) (x y : Int) : Int := k.wrap (x + y)
def subI (k : IntKind) (x y : Int) : Int := k.wrap (x - y)
def mulI (k : IntKind) (x y : Int) : Int := k.wrap (x * y)
def quoI (k : IntKind) (x y : Int) : Int := k.wrap (x.tdiv y)
def remI (x y : Int) : Int := x.tmod y
def bits (op : BinOp) (k : IntKind) (x y : Int) : Int := match op with
  | .and => k.wrap (BitVec.ofInt k.bits x &&& BitVec.ofInt k.bits y).toNat
  | .or => k.wrap (BitVec.ofInt k.bits x ||| BitVec.ofInt k.bits y).toNat
  | .xor => k.wrap (BitVec.ofInt k.bits x ^^^ BitVec.ofInt k.bits y).toNat
  | _ => k.wrap (BitVec.ofInt k.bits x &&& ~~~BitVec.ofInt k.bits y).toNat
def shlI (k : IntKind) (x y : Int) : Int := k.wrap (x * 2 ^ (min y.toNat k.bits))
def shrI (k : IntKind) (x y : Int) : Int := x.fdiv (2 ^ (min y.toNat k.bits))
def convI (k : IntKind) (x : Int) : Int := k.wrap x
def eqI (x y : Int) : Bool := x == y
def neI (x y : Int) : Bool := x != y
def ltI (x y : Int) : Bool := decide (x < y)
def leI (x y : Int) : Bool := decide (x ≤ y)
def eqB (x y : Bool) : Bool := x == y
def notB (x : Bool) : Bool := !x
def andB (x y : Bool) : Bool := x && y
def orB (x y : Bool) : Bool := x || y
def minI (x y : Int) : Int := if y < x then y else x
def maxI (x y : Int) : Int := if y > x then y else x
def eqS (x y : ByteArray) : Bool := x.toList == y.toList
def bless : List UInt8 → List UInt8 → Bool
  | _, [] => false
  | [], _ :: _ => true
  | a :: x, b :: y => a < b || (a == b && bless x y)
def ltS (x y : ByteArray) : Bool := bless x.toList y.toList
def fitsS (x y : ByteArray) : Bool := decide (x.size + y.size ≤ 9223372036854775807)
def okS (x : ByteArray) : Bool := decide (x.size ≤ 9223372036854775807)
def catS (x y : ByteArray) : ByteArray := x ++ y
def lenS (x : ByteArray) : Int := (x.size : Int)
def btI (s : ByteArray) (i : Int) : Int := if h : i.toNat < s.size then ((s[i.toNat]'h).toNat : Int) else 0
def cutS (x : ByteArray) (l h : Int) : ByteArray := x.extract l.toNat h.toNat
def bytesI (s : ByteArray) : List Int := s.data.toList.map fun b => (b.toNat : Int)
def ofBytes (xs : List Int) : ByteArray := ⟨(xs.map fun n => UInt8.ofNat n.toNat).toArray⟩
def inB (i n : Int) : Bool := decide (0 ≤ i) && decide (i < n)
def boundB (v y : Int) : Bool := decide (0 ≤ v) && decide (v ≤ y)
def lenL {α : Type} (xs : List α) : Int := (xs.length : Int)
def elT (t : Ty) (xs : List t.den) (i : Int) : t.den := xs.getD i.toNat t.dft
def cutL {α : Type} (x : List α) (l h : Int) : List α := (x.take h.toNat).drop l.toNat
def catL {α : Type} (x y : List α) : List α := x ++ y
def fitsL (n m : Int) (bytes : Nat) : Bool := decide ((n + m) * bytes ≤ 140737488355328) && decide (n + m ≤ 140737488355328)
def posI (n : Int) : Bool := decide (0 < n)
def setL {α : Type} (x : List α) (i : Int) (v : α) : List α := x.set i.toNat v
def repL {α : Type} (n : Int) (v : α) : List α := List.replicate n.toNat v
def wipeL {α : Type} (x : List α) (l n : Int) (v : α) : List α := x.take l.toNat ++ (List.replicate (min n.toNat x.length - l.toNat) v ++ x.drop (max l.toNat n.toNat))
def makeB (n c : Int) (bytes : Nat) : Bool := decide (0 ≤ n) && decide (n ≤ c) && decide (c * bytes ≤ 140737488355328) && decide (c ≤ 140737488355328)
/-- The rune at a place of a text, and how many bytes it has; a rune as text. -/
def runeI (s : ByteArray) (i : Int) : Int := (Utf8.decode s i.toNat).1
def runeN (s : ByteArray) (i : Int) : Int := i + ((Utf8.decode s i.toNat).2 : Int)
def runeS (n : Int) : ByteArray := Utf8.encode n
/-- Are two values the same? -/
def eqD (t : Ty) (x y : t.den) : Bool := match t with
  | .int _ => eqI x y
  | .bool => eqB x y
  | .str => eqS x y
  | .sl _ _ => false
  | .pair a b => andB (eqD a x.1 y.1) (eqD b x.2 y.2)
  | .agg t => eqD t x y
  | .err => false
/-- Maps, as rows of what they hold, in the order in which it was put. -/
def getM (t u : Ty) (d : u.den) (l : Ents t u) (k : t.den) : u.den := match l with
  | [] => d
  | p :: r => if eqD t k p.1 = true then p.2 else getM t u d r k
def hasM (t u : Ty) (l : Ents t u) (k : t.den) : Bool := l.any fun p => eqD t k p.1
def putM (t u : Ty) (l : Ents t u) (k : t.den) (v : u.den) : Ents t u := match l with
  | [] => [(k, v)]
  | p :: r => if eqD t k p.1 = true then (k, v) :: r else p :: putM t u r k v
def iteV (t : Ty) (c : Bool) (x y : t.den) : t.den := if c = true then x else y
def ifO {R : Type} (c : Bool) (x y : Option R) : Option R := if c = true then x else y
def bindO {V R : Type} (x : Option V) (f : V → Option R) : Option R := x.bind f
/-- What follows a join. -/
abbrev gets {V R : Type} (x : Option (V → Option R)) : V → Option R := match x with
  | some f => f
  | none => fun _ => none
abbrev jn {V R : Type} (G : V → Option R) (v : V) : Option R := G v
/-- So many rounds at most. -/
def iter {V R : Type} (f : (V → Option R) → V → Option R) : Nat → V → Option R
  | 0, _ => none
  | j + 1, v => f (iter f j) v
/-! ### end of the plain operations -/
/-! ### values that are known in part -/
inductive AV (E : Type) where
  | undef
  | sym (t : Ty) (x : E → t.den)
  | cb (b : Bool)
  | nilsl
  | full (e : TypeId) (t : Ty) (x : E → List t.den)
  | own (z : Bool) (k : Nat) (e : TypeId) (t : Ty) (x : E → List t.den)
  | ptr (b o : Nat)
  | np (b o : Nat)
  | nilp
  | rp (cs : List (AV E))
  | ag (cs : List (AV E))
  | tup (cs : List (AV E))
  | fn (f : FuncId) (cs : List (AV E))
  | nilf
  | mp (b : Nat)
  | ents (kd vd : Ty) (x : E → List (kd.den × vd.den))
  | nili
  | mow (z : Bool) (k : Nat) (e : TypeId) (t : Ty) (x : E → List t.den)
  | ep (k : Nat) (e : TypeId) (t : Ty) (x : E → List t.den) (j : E → Int) (o : Nat)
  | tl (k : Nat) (e : TypeId) (t : Ty) (x : E → List t.den) (l : E → Int)
  | capk (k n : Nat)
  | bsl (b o n : Nat)
mutual
def AV.comap {E E' : Type} (g : E' → E) : AV E → AV E'
  | .undef => .undef
  | .sym t x => .sym t fun e => x (g e)
  | .cb b => .cb b
  | .nilsl => .nilsl
  | .full e t x => .full e t fun e => x (g e)
  | .own z k e t x => .own z k e t fun e => x (g e)
  | .ptr b o => .ptr b o
  | .np b o => .np b o
  | .nilp => .nilp
  | .rp cs => .rp (AV.comaps g cs)
  | .ag cs => .ag (AV.comaps g cs)
  | .tup cs => .tup (AV.comaps g cs)
  | .fn f cs => .fn f (AV.comaps g cs)
  | .nilf => .nilf
  | .mp b => .mp b
  | .ents kd vd x => .ents kd vd fun e => x (g e)
  | .nili => .nili
  | .mow z k e t x => .mow z k e t fun e => x (g e)
  | .ep k e t x j o => .ep k e t (fun e => x (g e)) (fun e => j (g e)) o
  | .tl k e t x l => .tl k e t (fun e => x (g e)) fun e => l (g e)
  | .capk k n => .capk k n
  | .bsl b o n => .bsl b o n
def AV.comaps {E E' : Type} (g : E' → E) : List (AV E) → List (AV E')
  | [] => []
  | c :: cs => c.comap g :: AV.comaps g cs
end
mutual
/-- Without a row of our own that is appended to. -/
def AV.kill {E : Type} (k : Nat) : AV E → AV E
  | .own z j e t x => if j = k then .undef else .own z j e t x
  | .rp cs => .rp (AV.kills k cs)
  | .ag cs => .ag (AV.kills k cs)
  | .tup cs => .tup (AV.kills k cs)
  | .fn f cs => .fn f (AV.kills k cs)
  | .mow z j e t x => if j = k then .undef else .mow z j e t x
  | .ep j e t x i o => if j = k then .undef else .ep j e t x i o
  | .tl j e t x l => if j = k then .undef else .tl j e t x l
  | .capk j n => if j = k then .undef else .capk j n
  | v => v
def AV.kills {E : Type} (k : Nat) : List (AV E) → List (AV E)
  | [] => []
  | c :: cs => c.kill k :: AV.kills k cs
end
def castTo {E : Type} (t u : Ty) (x : E → t.den) : Option (E → u.den) := if h : t = u then some (h ▸ x) else none
mutual
/-- A row of our own is one no more: its cells will stay as they are. -/
def AV.free {E : Type} (k : Nat) : AV E → AV E
  | .own z j e t x => if j = k then .sym (.sl e t) x else .own z j e t x
  | .rp cs => .rp (AV.frees k cs)
  | .ag cs => .ag (AV.frees k cs)
  | .tup cs => .tup (AV.frees k cs)
  | .fn f cs => .fn f (AV.frees k cs)
  | .mow z j e t x => if j = k then .sym (.sl e t) x else .mow z j e t x
  | .ep j e t x i o => if j = k then .undef else .ep j e t x i o
  | .tl j e t x l => if j = k then .undef else .tl j e t x l
  | .capk j n => if j = k then .undef else .capk j n
  | v => v
def AV.frees {E : Type} (k : Nat) : List (AV E) → List (AV E)
  | [] => []
  | c :: cs => c.free k :: AV.frees k cs
end
mutual
/-- The rows that are not frozen. -/
def AV.open {E : Type} : AV E → List Nat
  | .mow _ k _ _ _ => [k]
  | .rp cs => AV.opens cs
  | .ag cs => AV.opens cs
  | .tup cs => AV.opens cs
  | .fn _ cs => AV.opens cs
  | _ => []
def AV.opens {E : Type} : List (AV E) → List Nat
  | [] => []
  | c :: cs => c.open ++ AV.opens cs
end
mutual
/-- A result: rows of our own as views. -/
def AV.view {E : Type} : AV E → AV E
  | .own _ _ e t x => .sym (.sl e t) x
  | .mow _ _ e t x => .sym (.sl e t) x
  | .rp cs => .rp (AV.views cs)
  | .ag cs => .ag (AV.views cs)
  | .tup cs => .tup (AV.views cs)
  | .fn f cs => .fn f (AV.views cs)
  | .ep .. => .undef
  | .tl .. => .undef
  | .capk .. => .undef
  | v => v
def AV.views {E : Type} : List (AV E) → List (AV E)
  | [] => []
  | c :: cs => c.view :: AV.views cs
end
abbrev Env (E : Type) := List (Nat × AV E)
def Env.free {E : Type} (k : Nat) : Env E → Env E
  | [] => []
  | (t, v) :: r => (t, v.free k) :: Env.free k r
def Env.get {E : Type} (l : Env E) (t : Nat) : AV E := match l with
  | [] => .undef
  | (u, v) :: r => if u = t then v else Env.get r t
def Env.without {E : Type} (c : List Nat) (l : Env E) : Env E := match l with
  | [] => []
  | (u, v) :: r => if c.contains u then Env.without c r else (u, v) :: Env.without c r
def Env.set {E : Type} (l : Env E) (t : Nat) (v : AV E) : Env E := match l with
  | [] => [(t, v)]
  | (u, x) :: r => if u = t then (t, v) :: r else (u, x) :: Env.set r t v
def Env.comap {E E' : Type} (g : E' → E) : Env E → Env E'
  | [] => []
  | (t, v) :: r => (t, v.comap g) :: Env.comap g r
def Env.kill {E : Type} (k : Nat) : Env E → Env E
  | [] => []
  | (t, v) :: r => (t, v.kill k) :: Env.kill k r
/-- Keys that are known. -/
inductive CK where
  | int (k : IntKind) (n : Int)
  | bool (b : Bool)
  | str (s : ByteArray)
  deriving DecidableEq
/-- Kinds of blocks: cells; a map whose keys are known; a map; a walk along a text. -/
inductive BK where
  | row (e : TypeId)
  | smap (t : TypeId) (ks : List CK)
  | dmap
  | iter
  deriving DecidableEq
inductive Blk (E : Type) where
  | dead
  | cells (e : BK) (cs : List (AV E))
def Blk.comap {E E' : Type} (g : E' → E) : Blk E → Blk E'
  | .dead => .dead
  | .cells e cs => .cells e (AV.comaps g cs)
def Blk.kill {E : Type} (k : Nat) : Blk E → Blk E
  | .dead => .dead
  | .cells e cs => .cells e (AV.kills k cs)
def Blk.free {E : Type} (k : Nat) : Blk E → Blk E
  | .dead => .dead
  | .cells e cs => .cells e (AV.frees k cs)
structure St (E : Type) where
  tmps : Env E
  size : Nat
  stack : List (Env E)
  blocks : List (Blk E)
  nt : Nat
def St.comap {E E' : Type} (g : E' → E) (s : St E) : St E' :=
  ⟨s.tmps.comap g, s.size, s.stack.map (Env.comap g), s.blocks.map (Blk.comap g), s.nt⟩
def St.put {E : Type} (s : St E) (d : Option Tmp) (v : AV E) : St E := match d with
  | none => s
  | some t => { s with tmps := s.tmps.set t v }
def St.free1 {E : Type} (s : St E) (k : Nat) : St E := { s with tmps := s.tmps.free k, stack := s.stack.map (Env.free k), blocks := s.blocks.map (Blk.free k) }
mutual
/-- What is stored into a row that is not frozen. -/
def AV.upd {E : Type} (k : Nat) (e : TypeId) (t : Ty) (g : E → List t.den → List t.den) : AV E → AV E
  | .own z j e' t' x => if j = k then .undef else .own z j e' t' x
  | .rp cs => .rp (AV.upds k e t g cs)
  | .ag cs => .ag (AV.upds k e t g cs)
  | .tup cs => .tup (AV.upds k e t g cs)
  | .fn f cs => .fn f (AV.upds k e t g cs)
  | .mow z j e' t' x => if j = k then (match castTo (.sl e' t') (.sl e t) x with
    | some x' => .mow z j e t fun v => g v (x' v)
    | none => .undef) else .mow z j e' t' x
  | .ep j e' t' x i o => if j = k then (match castTo (.sl e' t') (.sl e t) x with
    | some x' => .ep j e t (fun v => g v (x' v)) i o
    | none => .undef) else .ep j e' t' x i o
  | .tl j e' t' x l => if j = k then .undef else .tl j e' t' x l
  | v => v
def AV.upds {E : Type} (k : Nat) (e : TypeId) (t : Ty) (g : E → List t.den → List t.den) : List (AV E) → List (AV E)
  | [] => []
  | c :: cs => c.upd k e t g :: AV.upds k e t g cs
end
def Env.upd {E : Type} (k : Nat) (e : TypeId) (t : Ty) (g : E → List t.den → List t.den) : Env E → Env E
  | [] => []
  | (u, v) :: r => (u, v.upd k e t g) :: Env.upd k e t g r
def Blk.upd {E : Type} (k : Nat) (e : TypeId) (t : Ty) (g : E → List t.den → List t.den) : Blk E → Blk E
  | .dead => .dead
  | .cells el cs => .cells el (AV.upds k e t g cs)
def St.upd {E : Type} (s : St E) (k : Nat) (e : TypeId) (t : Ty) (g : E → List t.den → List t.den) : St E :=
  { s with tmps := s.tmps.upd k e t g, stack := s.stack.map (Env.upd k e t g), blocks := s.blocks.map (Blk.upd k e t g) }
def St.frees {E : Type} (s : St E) : List Nat → St E
  | [] => s
  | k :: ks => (s.free1 k).frees ks
def constAV {E : Type} : Value → AV E
  | .int k n => .sym (.int k) fun _ => n
  | .bool b => .cb b
  | .string s => .sym .str fun _ => s
  | .slice none 0 0 => .nilsl
  | .pointer none => .nilp
  | .nilFunc => .nilf
  | .nilIface => .nili
  | _ => .undef
def constV {E : Type} : Value → AV E
  | .agg cs => .ag (cs.toList.map constAV)
  | v => constAV v
def St.ev {E : Type} (s : St E) : Operand → AV E
  | .tmp t => s.tmps.get t
  | .const v => constV v
  | .global _ => .undef
  | .func f => .fn f []
/-! ### to and from plain data -/
def AV.to1 {E : Type} (u : Ty) : AV E → Option (E → u.den)
  | .sym t x => castTo t u x
  | .cb b => castTo .bool u fun _ => b
  | .nilsl => match u with
    | .sl _ _ => some fun _ => []
    | _ => none
  | .full e t x => castTo (.sl e t) u x
  | .own _ _ e t x => castTo (.sl e t) u x
  | .nili => castTo .err u fun _ => true
  | _ => none
def toTy {E : Type} : (u : Ty) → List (AV E) → Option (E → u.den)
  | .pair a b, cs => (toTy a (cs.take a.size)).bind fun x => (toTy b (cs.drop a.size)).bind fun y => some fun e => (x e, y e)
  | .agg t, cs => toTy t cs
  | u, [c] => c.to1 u
  | _, _ => none
def AV.to {E : Type} (u : Ty) (v : AV E) : Option (E → u.den) := match u, v with
  | .agg t, .ag cs => if cs.length = t.size then toTy t cs else none
  | .agg _, _ => none
  | u, v => v.to1 u
def fromTy {E : Type} : (u : Ty) → (E → u.den) → List (AV E)
  | .pair a b, x => fromTy a (fun e => (x e).1) ++ fromTy b (fun e => (x e).2)
  | .agg t, x => fromTy t x
  | u, x => [.sym u x]
def AV.of {E : Type} : (u : Ty) → (E → u.den) → AV E
  | .agg t, x => .ag (fromTy t x)
  | u, x => .sym u x
def toTup {E : Type} : (l : List Ty) → List (AV E) → Option (E → Tup l)
  | [], [] => some fun _ => ()
  | [t], [v] => v.to t
  | t :: u :: r, v :: vs => (v.to t).bind fun x => (toTup (u :: r) vs).bind fun y => some fun e => (x e, y e)
  | _, _ => none
def ofTup {E : Type} : (l : List Ty) → (E → Tup l) → List (AV E)
  | [], _ => []
  | [t], x => [.of t x]
  | t :: u :: r, x => .of t (fun e => (x e).1) :: ofTup (u :: r) (fun e => (x e).2)
/-- What is one cell. -/
def AV.one {E : Type} : AV E → Bool
  | .undef | .ag _ | .tup _ | .ents .. => false
  | _ => true
/-- The cells of a value. -/
def AV.cells {E : Type} : AV E → Option (List (AV E))
  | .ag cs => if cs.all AV.one then some cs else none
  | v => if v.one then some [v] else none
/-! ### contracts of functions -/
structure Spec where
  args : List Ty
  res : List Ty
  F : Nat → Tup args → Option (Tup res)
/-- A function whose first argument goes to a block of ours: what the block holds is handed on, and back. -/
structure RSpec where
  el : TypeId
  t : Ty
  args : List Ty
  res : List Ty
  F : Nat → Tup (.agg t :: args) → Option (Tup (.agg t :: res))
/-- Functions that are told as a whole: the check of a strings.Builder, and its text. -/
inductive Spx where
  | copy (T : TypeId)
  | str (T eb : TypeId)
/-- A part of a body that is told by hand: it reads a map, and leaves one value. -/
structure FSpec where
  code : Code
  then_ : Code
  last_ : Code
  m : Nat
  kd : Ty
  vd : Ty
  d : Nat
  res : Ty
  clob : List Nat
  size : Nat
  F : Nat → List (kd.den × vd.den) → Option res.den
/-- A part of a body that is told by hand: it reads one value, and leaves one. -/
structure GSpec where
  code : Code
  then_ : Code
  m : Nat
  a : Ty
  d : Nat
  res : Ty
  clob : List Nat
  size : Nat
  F : Nat → a.den → Option res.den
inductive Con where
  | fn (S : Spec)
  | x (X : Spx)
  | ref (S : RSpec)
  | frag (S : FSpec)
  | part (S : GSpec)
abbrev Specs := List (FuncId × Con)
def Specs.get (l : Specs) (f : FuncId) : Option Con := match l with
  | [] => none
  | (g, s) :: r => if g = f then some s else Specs.get r f
/-! ### types -/
def Ty.strip : Ty → Ty
  | .agg t => t
  | t => t
def pairUp : List (Option Ty) → Option Ty
  | [] => none
  | [a] => a.map Ty.strip
  | a :: b :: r => a.bind fun x => (pairUp (b :: r)).bind fun y => some (.pair x.strip y)
def tyOf (P : Program) : Nat → TypeId → Option Ty
  | 0, _ => none
  | n + 1, t => match P.underlying t with
    | some (.int k) => some (.int k)
    | some .bool => some .bool
    | some .string => some .str
    | some (.slice e) => (tyOf P n e).map (.sl e)
    | some (.struct fs) => (pairUp (fs.toList.map fun f => tyOf P n f.type)).map .agg
    | some (.array len e) => (pairUp (List.replicate len (tyOf P n e))).map .agg
    | some (.interface _) => some .err
    | _ => none
def isAggT (P : Program) (t : TypeId) : Bool := match P.underlying t with
  | some (.struct _) => true
  | some (.array _ _) => true
  | _ => false
def sizeT (P : Program) (t : TypeId) : Nat := P.cellsOf t
/-! ### operations that leave the world alone: under which condition, and what they yield -/
abbrev Out (E : Type) := Option (Option (E → Bool) × AV E)
def ok {E : Type} (v : AV E) : Out E := some (none, v)
def okIf {E : Type} (c : E → Bool) (v : AV E) : Out E := some (some c, v)
def binInt {E : Type} (op : BinOp) (k : IntKind) (x y : E → Int) : Out E := match op with
  | .add => ok (.sym (.int k) fun e => addI k (x e) (y e))
  | .sub => ok (.sym (.int k) fun e => subI k (x e) (y e))
  | .mul => ok (.sym (.int k) fun e => mulI k (x e) (y e))
  | .quo => okIf (fun e => neI (y e) 0) (.sym (.int k) fun e => quoI k (x e) (y e))
  | .rem => okIf (fun e => neI (y e) 0) (.sym (.int k) fun e => remI (x e) (y e))
  | .and => ok (.sym (.int k) fun e => bits .and k (x e) (y e))
  | .or => ok (.sym (.int k) fun e => bits .or k (x e) (y e))
  | .xor => ok (.sym (.int k) fun e => bits .xor k (x e) (y e))
  | .andNot => ok (.sym (.int k) fun e => bits .andNot k (x e) (y e))
  | .eql => ok (.sym .bool fun e => eqI (x e) (y e))
  | .neq => ok (.sym .bool fun e => neI (x e) (y e))
  | .lss => ok (.sym .bool fun e => ltI (x e) (y e))
  | .leq => ok (.sym .bool fun e => leI (x e) (y e))
  | .gtr => ok (.sym .bool fun e => ltI (y e) (x e))
  | .geq => ok (.sym .bool fun e => leI (y e) (x e))
  | _ => none
def shift {E : Type} (op : BinOp) (k : IntKind) (x y : E → Int) : Out E := match op with
  | .shl => okIf (fun e => leI 0 (y e)) (.sym (.int k) fun e => shlI k (x e) (y e))
  | .shr => okIf (fun e => leI 0 (y e)) (.sym (.int k) fun e => shrI k (x e) (y e))
  | _ => none
def binStr {E : Type} (op : BinOp) (x y : E → ByteArray) : Out E := match op with
  | .add => okIf (fun e => fitsS (x e) (y e)) (.sym .str fun e => catS (x e) (y e))
  | .eql => ok (.sym .bool fun e => eqS (x e) (y e))
  | .neq => ok (.sym .bool fun e => notB (eqS (x e) (y e)))
  | .lss => ok (.sym .bool fun e => ltS (x e) (y e))
  | .leq => ok (.sym .bool fun e => orB (ltS (x e) (y e)) (eqS (x e) (y e)))
  | .gtr => ok (.sym .bool fun e => notB (orB (ltS (x e) (y e)) (eqS (x e) (y e))))
  | .geq => ok (.sym .bool fun e => notB (ltS (x e) (y e)))
  | _ => none
/-- Kinds that are compared cell by cell, laid one behind the other. -/
def plainT (P : Program) : Nat → TypeId → Option Ty
  | 0, _ => none
  | n + 1, t => match P.underlying t with
    | some (.int k) => some (.int k)
    | some .bool => some .bool
    | some .string => some .str
    | some (.struct fs) => if P.stoodInHeld t then none else (go P 0 (fs.toList.map fun f => (f, plainT P n f.type))).map .agg
    | _ => none
where
  go (P : Program) : Nat → List (Field × Option Ty) → Option Ty
    | _, [] => none
    | o, [(f, u)] => u.bind fun u => if f.name != "_" && f.offset = o && sizeT P f.type = u.size then some u.strip else none
    | o, (f, u) :: r => u.bind fun u => if f.name != "_" && f.offset = o && sizeT P f.type = u.size then (go P (o + u.size) r).bind fun v => some (.pair u.strip v) else none
def binOut {E : Type} (P : Program) (op : BinOp) (xt : TypeId) (a b : AV E) : Out E := match a, b with
  | .sym (.int k) x, .sym (.int k') y => match op with
    | .shl => shift .shl k x y
    | .shr => shift .shr k x y
    | op => if k = k' then binInt op k x y else none
  | .sym .str x, .sym .str y => binStr op x y
  | .ag xs, .ag ys => if P.eqGuardType P.depth xt then none else (plainT P 8 xt).bind fun u => ((AV.ag xs).to u).bind fun x => ((AV.ag ys).to u).bind fun y => match op with
    | .eql => ok (.sym .bool fun e => eqD u (x e) (y e))
    | .neq => ok (.sym .bool fun e => notB (eqD u (x e) (y e)))
    | _ => none
  | a, b => match P.underlying xt with
    | some .bool => (a.to1 .bool).bind fun x => (b.to1 .bool).bind fun y => match op with
      | .eql => ok (.sym .bool fun e => eqB (x e) (y e))
      | .neq => ok (.sym .bool fun e => notB (eqB (x e) (y e)))
      | _ => none
    | some (.slice _) => match a, b with
      | .own true _ _ _ x, .nilsl => match op with
        | .eql => ok (.sym .bool fun e => eqI (lenL (x e)) 0)
        | .neq => ok (.sym .bool fun e => neI (lenL (x e)) 0)
        | _ => none
      | .mow true _ _ _ x, .nilsl => match op with
        | .eql => ok (.sym .bool fun e => eqI (lenL (x e)) 0)
        | .neq => ok (.sym .bool fun e => neI (lenL (x e)) 0)
        | _ => none
      | .nilsl, .nilsl => match op with
        | .eql => ok (.cb true)
        | .neq => ok (.cb false)
        | _ => none
      | _, _ => none
    | _ => none
/-- Is an interface nil? -/
def ifaceOut {E : Type} (P : Program) (s : St E) (op : BinOp) (xt : TypeId) (x y : Operand) : Out E := match P.underlying xt, y with
  | some (.interface _), .const .nilIface => ((s.ev x).to1 .err).bind fun f => match op with
    | .eql => ok (.sym .bool f)
    | .neq => ok (.sym .bool fun e => notB (f e))
    | _ => none
  | _, _ => none
def unOut {E : Type} (op : UnOp) (a : AV E) : Out E := match op, a with
  | .neg, .sym (.int k) x => ok (.sym (.int k) fun e => subI k 0 (x e))
  | .xor, .sym (.int k) x => ok (.sym (.int k) fun e => bits .xor k (if k.signed then -1 else k.max) (x e))
  | .not, .sym .bool x => ok (.sym .bool fun e => notB (x e))
  | .not, .cb b => ok (.cb (!b))
  | _, _ => none
def convOut {E : Type} (P : Program) (src dst : TypeId) (a : AV E) : Out E := if (P.underlying src).isNone then none else match P.underlying dst, a with
  | some (.int k), .sym (.int _) x => ok (.sym (.int k) fun e => convI k (x e))
  | some .string, .sym .str x => ok (.sym .str x)
  | some .string, .sym (.int _) x => (P.underlying src).bind fun d => match d with
    | .int _ => ok (.sym .str fun e => runeS (x e))
    | _ => none
  | some .string, a => match P.underlying src with
    | some (.slice e) => match P.underlying e with
      | some (.int .u8) => (a.to1 (.sl e (.int .u8))).map fun x => (none, .sym .str fun e => ofBytes (x e))
      | _ => none
    | _ => none
  | _, _ => none
/-- An index as a number. -/
def AV.int? {E : Type} : AV E → Option (E → Int)
  | .sym (.int _) x => some x
  | _ => none
structure LV (E : Type) where
  e : TypeId
  t : Ty
  x : E → List t.den
def AV.list? {E : Type} : AV E → Option (LV E)
  | .sym (.sl e t) x => some ⟨e, t, x⟩
  | .full e t x => some ⟨e, t, x⟩
  | .own _ _ e t x => some ⟨e, t, x⟩
  | _ => none
def isStrT (P : Program) (t : TypeId) : Bool := match P.underlying t with
  | some .string => true
  | _ => false
/-- Is it a slice, whose elements have so many cells? -/
def isSlT (P : Program) (t : TypeId) (n : Nat) : Bool := match P.underlying t with
  | some (.slice el) => sizeT P el == n && (P.info? el).isSome
  | _ => false
def isSl (P : Program) (t : TypeId) : Bool := match P.underlying t with
  | some (.slice _) => true
  | _ => false
def lenOut {E : Type} (P : Program) (t : TypeId) (a : AV E) : Out E := match a with
  | .sym .str x => if isStrT P t then ok (.sym (.int .i64) fun e => lenS (x e)) else none
  | .nilsl => if isSl P t then ok (.sym (.int .i64) fun _ => 0) else none
  | .mow _ _ _ _ x => if isSl P t then ok (.sym (.int .i64) fun e => lenL (x e)) else none
  | .bsl _ _ n => if isSl P t then ok (.sym (.int .i64) fun _ => (n : Int)) else none
  | a => a.list?.bind fun l => if isSl P t then ok (.sym (.int .i64) fun e => lenL (l.x e)) else none
/-- Of closed values at each place, that at a place. -/
def pickAt {E : Type} (t : Ty) : List (AV E) → Option (E → List t.den)
  | [] => some fun _ => []
  | c :: cs => (c.to1 t).bind fun x => (pickAt t cs).bind fun y => some fun e => x e :: y e
def indexOut {E : Type} (P : Program) (t : TypeId) (a i : AV E) : Out E := match a, i.int? with
  | .sym .str x, some j => if isStrT P t then okIf (fun e => inB (j e) (lenS (x e))) (.sym (.int .u8) fun e => btI (x e) (j e)) else none
  | .ag cs, some j => match P.underlying t with
    | some (.array n el) => if n = cs.length && sizeT P el = 1 && !isAggT P el && (P.underlying el).isSome then
        (tyOf P 8 el).bind fun u => (pickAt u cs).bind fun xs => okIf (fun e => inB (j e) (n : Int)) (.sym u fun e => elT u (xs e) (j e))
      else none
    | _ => none
  | _, _ => none
def constI (o : Operand) : Option Nat := match o with
  | .const (.int _ n) => if 0 ≤ n then some n.toNat else none
  | _ => none
/-- The size of an array's elements, if it has an element so far. -/
def elAt (P : Program) (t : TypeId) (n : Nat) : Option Nat := match P.underlying t with
  | some (.array len el) => if n < len && (P.info? el).isSome then some (sizeT P el) else none
  | _ => none
def indexAddrOut {E : Type} (P : Program) (t : TypeId) (a i : AV E) (o : Operand) : Out E := match a with
  | .ptr b p => (constI o).bind fun n => (elAt P t n).bind fun m => ok (.ptr b (p + n * m))
  | a => match a.list?, i.int? with
    | some l, some j => if !isSlT P t l.t.size then none else okIf (fun e => inB (j e) (lenL (l.x e))) (.rp (fromTy l.t fun e => elT l.t (l.x e) (j e)))
    | _, _ => none
def fieldOf (P : Program) (s : TypeId) (n : Nat) : Option Field := match P.underlying s with
  | some (.struct fs) => fs[n]?
  | _ => none
def partOut {E : Type} (P : Program) (t : TypeId) (cs : List (AV E)) (off : Nat) : Option (AV E) :=
  if (P.underlying t).isNone then none else if isAggT P t then (if off + sizeT P t ≤ cs.length then some (.ag ((cs.drop off).take (sizeT P t))) else none) else cs[off]?
def fieldOut {E : Type} (P : Program) (s : TypeId) (a : AV E) (n : Nat) : Out E := match fieldOf P s n, a with
  | some f, .ag cs => (partOut P f.type cs f.offset).map fun v => (none, v)
  | _, _ => none
def fieldAddrOut {E : Type} (P : Program) (s : TypeId) (a : AV E) (n : Nat) : Out E := match fieldOf P s n, a with
  | some f, .ptr b o => if sizeT P f.type = 0 || (P.info? f.type).isNone then none else ok (.ptr b (o + f.offset))
  | some f, .rp cs => if sizeT P f.type = 0 || (P.info? f.type).isNone then none else ok (.rp (cs.drop f.offset))
  | _, _ => none
def loadOut {E : Type} (P : Program) (s : St E) (t : TypeId) (a : AV E) : Out E := match a with
  | .ptr b o => match s.blocks[b]? with
    | some (.cells (.row _) cs) => (partOut P t cs o).map fun v => (none, v)
    | _ => none
  | .rp cs => (partOut P t cs 0).map fun v => (none, v)
  | _ => none
def loI {E : Type} (lo : Option (AV E)) : Option (E → Int) := match lo with
  | none => some fun _ => 0
  | some v => v.int?
def hiI {E : Type} (n : E → Int) (hi : Option (AV E)) : Option (E → Int) := match hi with
  | none => some n
  | some v => v.int?
def sliceOut {E : Type} (P : Program) (t : TypeId) (a : AV E) (lo hi mx : Option (AV E)) : Out E := match a, mx with
  | .sym .str x, none => if !isStrT P t then none else (loI lo).bind fun l => (hiI (fun e => lenS (x e)) hi).bind fun h =>
    okIf (fun e => andB (boundB (h e) (lenS (x e))) (boundB (l e) (h e))) (.sym .str fun e => cutS (x e) (l e) (h e))
  | a, none => a.list?.bind fun v => if !isSlT P t v.t.size then none else (loI lo).bind fun l => (hiI (fun e => lenL (v.x e)) hi).bind fun h =>
    okIf (fun e => andB (boundB (h e) (lenL (v.x e))) (boundB (l e) (h e))) (.sym (.sl v.e v.t) fun e => cutL (v.x e) (l e) (h e))
  | a, some m => a.list?.bind fun v => if !isSlT P t v.t.size then none else (loI lo).bind fun l => (hi.bind fun v => v.int?).bind fun h => m.int?.bind fun m =>
    okIf (fun e => andB (andB (boundB (h e) (lenL (v.x e))) (boundB (l e) (h e))) (eqI (m e) (h e))) (.full v.e v.t fun e => cutL (v.x e) (l e) (h e))
def foldInt {E : Type} (f : Int → Int → Int) (k : IntKind) : (E → Int) → List (AV E) → Option (E → Int)
  | x, [] => some x
  | x, .sym (.int k') y :: r => if k = k' then foldInt f k (fun e => f (x e) (y e)) r else none
  | _, _ => none
def minMax {E : Type} (f : Int → Int → Int) : List (AV E) → Out E
  | .sym (.int k) x :: r => (foldInt f k x r).map fun y => (none, .sym (.int k) y)
  | _ => none
def pickOut {E : Type} (c a b : AV E) : Out E := match c with
  | .cb true => ok a
  | .cb false => ok b
  | .sym .bool x => match a, b with
    | .sym t y, b => (b.to1 t).map fun z => (none, .sym t fun e => iteV t (x e) (y e) (z e))
    | .cb y, b => (b.to1 .bool).map fun z => (none, .sym .bool fun e => iteV .bool (x e) y (z e))
    | _, _ => none
  | _ => none
/-- A struct out of its parts. -/
def putCells {E : Type} : List (AV E) → Nat → List (AV E) → List (AV E)
  | cs, _, [] => cs
  | cs, o, v :: r => putCells (cs.set o v) (o + 1) r
def buildGo {E : Type} (place : Nat → Option (Nat × Nat)) : List (AV E) → List (Nat × AV E) → Option (List (AV E))
  | cs, [] => some cs
  | cs, (i, v) :: r => match place i with
    | none => none
    | some (off, size) => v.cells.bind fun vs => if vs.length = size && decide (off + size ≤ cs.length) then buildGo place (putCells cs off vs) r else none
def zeroCells (P : Program) (t : TypeId) : Option (Array Value) := ((P.info? t).bind (·.zero)).map Value.cells
def buildOut {E : Type} (P : Program) (t : TypeId) (ps : List (Nat × AV E)) : Out E := (zeroCells P t).bind fun z => match P.underlying t with
  | some (.struct fs) => if fs.toList.all fun f => (P.info? f.type).isSome then (buildGo (fun i => (fs[i]?).map fun f => (f.offset, sizeT P f.type)) (z.toList.map constAV) ps).map fun cs => (none, .ag cs) else none
  | some (.array _ el) => if (P.info? el).isSome then (buildGo (fun i => some (i * sizeT P el, sizeT P el)) (z.toList.map constAV) ps).map fun cs => (none, .ag cs) else none
  | _ => none
def CK.ty : CK → Ty
  | .int k _ => .int k
  | .bool _ => .bool
  | .str _ => .str
def CK.val : CK → Value
  | .int k n => .int k n
  | .bool b => .bool b
  | .str s => .string s
def CK.to (t : Ty) (c : CK) : Option t.den := match c with
  | .int k n => if h : Ty.int k = t then some (h ▸ n) else none
  | .bool b => if h : Ty.bool = t then some (h ▸ b) else none
  | .str s => if h : Ty.str = t then some (h ▸ s) else none
def ckOf : Operand → Option CK
  | .const (.int k n) => some (.int k n)
  | .const (.bool b) => some (.bool b)
  | .const (.string s) => some (.str s)
  | _ => none
/-- The kind of a map's keys: simple ones. -/
def keyTy (P : Program) (t : TypeId) : Option Ty := match P.underlying t with
  | some (.int k) => some (.int k)
  | some .bool => some .bool
  | some .string => some .str
  | _ => none
/-- What a type's variables hold at first. -/
def zeroAV {E : Type} (P : Program) (t : TypeId) : Option (AV E) := ((P.info? t).bind (·.zero)).map constV
/-- A map whose keys are known, as entries. -/
def entsOf {E : Type} (kd vd : Ty) : List CK → List (AV E) → Option (E → List (kd.den × vd.den))
  | [], [] => some fun _ => []
  | k :: ks, v :: vs => (k.to kd).bind fun y => (v.to vd).bind fun x => (entsOf kd vd ks vs).bind fun r => some fun e => (y, x e) :: r e
  | _, _ => none
structure EV (E : Type) (kd : Ty) where
  vd : Ty
  x : E → List (kd.den × vd.den)
def entsAt {E : Type} (P : Program) (s : St E) (b : Nat) (kd : Ty) (et : TypeId) : Option (EV E kd) := match s.blocks[b]? with
  | some (.cells .dmap [.ents kd' vd x]) => if h : kd' = kd then some ⟨vd, h ▸ x⟩ else none
  | some (.cells (.smap _ ks) vs) => (tyOf P 8 et).bind fun vd => (entsOf kd vd ks vs).map fun x => ⟨vd, x⟩
  | _ => none
def lookOut {E : Type} (P : Program) (s : St E) (t : TypeId) (m k : AV E) (two : Bool) : Out E := match P.underlying t, m with
  | some (.map kt et), .mp b => (keyTy P kt).bind fun kd => (entsAt P s b kd et).bind fun v => (k.to kd).bind fun y => (zeroAV P et).bind fun z => (z.to v.vd).bind fun d =>
    let r : AV E := .of v.vd fun e => getM kd v.vd (d e) (v.x e) (y e)
    ok (if two then .tup [r, .sym .bool fun e => hasM kd v.vd (v.x e) (y e)] else r)
  | _, _ => none
def builtinOut {E : Type} (P : Program) (s : St E) (b : Builtin) (xs : List Operand) (ts : List TypeId) : Out E := match b with
  | .len => match xs, ts with
    | [x], [t] => lenOut P t (s.ev x)
    | _, _ => none
  | .min => minMax minI (xs.map s.ev)
  | .max => minMax maxI (xs.map s.ev)
  | _ => none
/-- The operations that leave the world alone. -/
def quiet {E : Type} (P : Program) (s : St E) (o : Op) : Out E := match o with
  | .move x | .assign x => ok (s.ev x)
  | .pick c a b => pickOut (s.ev c) (s.ev a) (s.ev b)
  | .load t a => loadOut P s t (s.ev a)
  | .binOp op t x y _ => match ifaceOut P s op t x y with
    | some c => some c
    | none => binOut P op t (s.ev x) (s.ev y)
  | .unOp op _ x => unOut op (s.ev x)
  | .convert a b x => convOut P a b (s.ev x)
  | .slice t x lo hi mx => sliceOut P t (s.ev x) (lo.map s.ev) (hi.map s.ev) (mx.map s.ev)
  | .fieldAddr t x f => fieldAddrOut P t (s.ev x) f
  | .field t x f => fieldOut P t (s.ev x) f
  | .indexAddr t x i => indexAddrOut P t (s.ev x) (s.ev i) i
  | .index t x i => indexOut P t (s.ev x) (s.ev i)
  | .lookup t x k two => lookOut P s t (s.ev x) (s.ev k) two
  | .extract t i => match s.ev t with
    | .tup vs => (vs[i]?).map fun v => (none, v)
    | _ => none
  | .nilCheck x => match s.ev x with
    | .ptr b o => ok (.ptr b o)
    | .rp cs => ok (.rp cs)
    | .fn f cs => ok (.fn f cs)
    | _ => none
  | .makeFunc (.func f) first caps => if first.isEmpty then ok (.fn f (caps.toList.map s.ev)) else none
  | .build t ps => buildOut P t (ps.toList.map fun (i, x) => (i, s.ev x))
  | .call c => match c.callee with
    | .builtin b => builtinOut P s b c.args.toList c.argTypes.toList
    | _ => none
  | .makeInterface t _ => match P.underlying t with
    | none => none
    | some (.interface _) => none
    | some _ => ok (.sym .err fun _ => false)
  | _ => none
/-! ### the compiler -/
abbrev Kont (R : Type) := (E : Type) → St E → Option (E → Option R)
def guardIf {E R : Type} (c : Option (E → Bool)) (k : Option (E → Option R)) : Option (E → Option R) := match c with
  | none => k
  | some c => k.map fun f e => ifO (c e) (f e) none
def splitB {E R : Type} (x : E → Bool) (a b : Option (E → Option R)) : Option (E → Option R) := match a, b with
  | some f, some g => some fun e => ifO (x e) (f e) (g e)
  | _, _ => none
/-- Shapes at joins and at the heads of loops. -/
inductive Pat where
  | sym (t : Ty)
  | cb (b : Bool)
  | nilsl
  | full (e : TypeId) (t : Ty)
  | own (z : Bool) (e : TypeId) (t : Ty)
  | ptr (b o : Nat)
  | np (b o : Nat)
  | nilp
  | ag (cs : List Pat)
  | fn (f : FuncId) (cs : List Pat)
  | mp (b : Nat)
  | ents (kd vd : Ty)
  | undef
  | nili
  | mow (z : Bool) (e : TypeId) (t : Ty)
  | bsl (b o n : Nat)
structure Shp where
  tmps : List (Nat × Pat)
  stack : List (List (Nat × Pat)) := []
  blocks : List (Option (BK × List Pat)) := []
inductive H where
  | no
  | stop
  | alt (a b : H)
  | two (a b : H)
  | join (S : Shp) (a b : H)
  | loop (S : Shp) (h : H)
  | ops (i : Nat) (h r : H)
  | frag (f : FuncId) (h : H)
/-- The leaves of a state that has a shape. -/
abbrev Leaf (E : Type) := (t : Ty) × (E → t.den)
mutual
def Pat.take {E : Type} : Pat → AV E → Option (List (Leaf E))
  | .undef, _ => some []
  | .sym t, v => (v.to1 t).map fun x => [⟨t, x⟩]
  | .cb b, .cb b' => if b = b' then some [] else none
  | .nilsl, .nilsl => some []
  | .full e t, .full e' t' x => (castTo (.sl e' t') (.sl e t) x).map fun x => [⟨.sl e t, x⟩]
  | .own z e t, .own z' _ e' t' x => if z && !z' then none else (castTo (.sl e' t') (.sl e t) x).map fun x => [⟨.sl e t, x⟩]
  | .own _ e t, .nilsl => some [⟨.sl e t, fun _ => []⟩]
  | .np _ _, .nilp => some []
  | .np b o, .ptr b' o' => if b = b' && o = o' then some [] else none
  | .np b o, .np b' o' => if b = b' && o = o' then some [] else none
  | .ptr b o, .ptr b' o' => if b = b' && o = o' then some [] else none
  | .nilp, .nilp => some []
  | .ag ps, .ag cs => Pat.takes ps cs
  | .fn f ps, .fn g cs => if f = g then Pat.takes ps cs else none
  | .mp b, .mp b' => if b = b' then some [] else none
  | .ents kd vd, .ents kd' vd' x => (castTo (.sl 0 (.pair kd' vd')) (.sl 0 (.pair kd vd)) x).map fun x => [⟨.sl 0 (.pair kd vd), x⟩]
  | .nili, .nili => some []
  | .mow z e t, .mow z' _ e' t' x => if z && !z' then none else (castTo (.sl e' t') (.sl e t) x).map fun x => [⟨.sl e t, x⟩]
  | .mow _ e t, .nilsl => some [⟨.sl e t, fun _ => []⟩]
  | .bsl b o n, .bsl b' o' n' => if b = b' && o = o' && n = n' then some [] else none
  | _, _ => none
def Pat.takes {E : Type} : List Pat → List (AV E) → Option (List (Leaf E))
  | [], [] => some []
  | p :: ps, c :: cs => (p.take c).bind fun x => (Pat.takes ps cs).bind fun y => some (x ++ y)
  | _, _ => none
end
mutual
def Pat.toks {E : Type} : Pat → AV E → List (Option Nat)
  | .own _ _ _, .own _ k _ _ _ => [some k]
  | .own _ _ _, _ => [none]
  | .mow _ _ _, .mow _ k _ _ _ => [some k]
  | .mow _ _ _, _ => [none]
  | .ag ps, .ag cs => Pat.tokss ps cs
  | .fn _ ps, .fn _ cs => Pat.tokss ps cs
  | _, _ => []
def Pat.tokss {E : Type} : List Pat → List (AV E) → List (Option Nat)
  | p :: ps, c :: cs => p.toks c ++ Pat.tokss ps cs
  | _, _ => []
end
/-- What is built anew: the leaves are taken from i on, the tokens from k on. -/
structure Made (E : Type) (α : Type) where
  val : α
  i : Nat
  k : Nat
mutual
def Pat.make {E : Type} (leaf : (t : Ty) → Nat → E → t.den) : Pat → Nat → Nat → Made E (AV E)
  | .undef, i, k => ⟨.undef, i, k⟩
  | .sym t, i, k => ⟨.sym t (leaf t i), i + 1, k⟩
  | .cb b, i, k => ⟨.cb b, i, k⟩
  | .nilsl, i, k => ⟨.nilsl, i, k⟩
  | .full e t, i, k => ⟨.full e t (leaf (.sl e t) i), i + 1, k⟩
  | .own z e t, i, k => ⟨.own z k e t (leaf (.sl e t) i), i + 1, k + 1⟩
  | .mow z e t, i, k => ⟨.mow z k e t (leaf (.sl e t) i), i + 1, k + 1⟩
  | .nili, i, k => ⟨.nili, i, k⟩
  | .np b o, i, k => ⟨.np b o, i, k⟩
  | .ptr b o, i, k => ⟨.ptr b o, i, k⟩
  | .nilp, i, k => ⟨.nilp, i, k⟩
  | .mp b, i, k => ⟨.mp b, i, k⟩
  | .bsl b o n, i, k => ⟨.bsl b o n, i, k⟩
  | .ents kd vd, i, k => ⟨.ents kd vd (leaf (.sl 0 (.pair kd vd)) i), i + 1, k⟩
  | .ag ps, i, k => let m := Pat.makes leaf ps i k; ⟨.ag m.val, m.i, m.k⟩
  | .fn f ps, i, k => let m := Pat.makes leaf ps i k; ⟨.fn f m.val, m.i, m.k⟩
def Pat.makes {E : Type} (leaf : (t : Ty) → Nat → E → t.den) : List Pat → Nat → Nat → Made E (List (AV E))
  | [], i, k => ⟨[], i, k⟩
  | p :: ps, i, k =>
    let m := p.make leaf i k
    let n := Pat.makes leaf ps m.i m.k
    ⟨m.val :: n.val, n.i, n.k⟩
end

mutual
/-- Do all pointers go to blocks that the shape has? -/
def Pat.ok (n : Nat) : Pat → Bool
  | .ptr b _ => decide (b < n)
  | .np b _ => decide (b < n)
  | .mp b => decide (b < n)
  | .bsl b _ _ => decide (b < n)
  | .ag ps => Pat.oks n ps
  | .fn _ ps => Pat.oks n ps
  | _ => true
def Pat.oks (n : Nat) : List Pat → Bool
  | [] => true
  | p :: ps => p.ok n && Pat.oks n ps
end
mutual
def Pat.tys : Pat → List Ty
  | .sym t => [t]
  | .full e t => [.sl e t]
  | .own _ e t => [.sl e t]
  | .mow _ e t => [.sl e t]
  | .ents kd vd => [.sl 0 (.pair kd vd)]
  | .ag ps => Pat.tyss ps
  | .fn _ ps => Pat.tyss ps
  | _ => []
def Pat.tyss : List Pat → List Ty
  | [] => []
  | p :: ps => p.tys ++ Pat.tyss ps
end
def Env.takes {E : Type} (env : Env E) : List (Nat × Pat) → Option (List (Leaf E))
  | [] => some []
  | (t, p) :: r => (p.take (env.get t)).bind fun x => (Env.takes env r).bind fun y => some (x ++ y)
def stackTakes {E : Type} : List (Env E) → List (List (Nat × Pat)) → Option (List (Leaf E))
  | [], [] => some []
  | s :: ss, p :: ps => (s.takes p).bind fun x => (stackTakes ss ps).bind fun y => some (x ++ y)
  | _, _ => none
def blkTakes {E : Type} : List (Blk E) → List (Option (BK × List Pat)) → Option (List (Leaf E))
  | _, [] => some []
  | _ :: bs, none :: ps => blkTakes bs ps
  | .cells e cs :: bs, some (e', q) :: ps => if e = e' then (Pat.takes q cs).bind fun x => (blkTakes bs ps).bind fun y => some (x ++ y) else match e, e', q with
    | .smap _ ks, .dmap, [.ents kd vd] => (entsOf kd vd ks cs).bind fun x => (blkTakes bs ps).bind fun y => some (⟨.sl 0 (.pair kd vd), x⟩ :: y)
    | _, _, _ => none
  | _, _ => none
def Env.tokss {E : Type} (env : Env E) : List (Nat × Pat) → List (Option Nat)
  | [] => []
  | (t, p) :: r => p.toks (env.get t) ++ Env.tokss env r
def stackToks {E : Type} : List (Env E) → List (List (Nat × Pat)) → List (Option Nat)
  | s :: ss, p :: ps => s.tokss p ++ stackToks ss ps
  | _, _ => []
def blkToks {E : Type} : List (Blk E) → List (Option (BK × List Pat)) → List (Option Nat)
  | _ :: bs, none :: ps => blkToks bs ps
  | .cells _ cs :: bs, some (_, q) :: ps => Pat.tokss q cs ++ blkToks bs ps
  | _, _ => []
def Env.tyss (l : List (Nat × Pat)) : List Ty := match l with
  | [] => []
  | (_, p) :: r => p.tys ++ Env.tyss r
def stackTys : List (List (Nat × Pat)) → List Ty
  | [] => []
  | p :: ps => Env.tyss p ++ stackTys ps
def blkTys : List (Option (BK × List Pat)) → List Ty
  | [] => []
  | none :: ps => blkTys ps
  | some (_, q) :: ps => Pat.tyss q ++ blkTys ps
def Shp.tys (S : Shp) : List Ty := Env.tyss S.tmps ++ (stackTys S.stack ++ blkTys S.blocks)
/-- The plain data that a state of the shape has. -/
@[reducible] def Shp.V (S : Shp) : Type := Tup S.tys
def getTup : (l : List Ty) → (t : Ty) → Nat → Tup l → t.den
  | [], t, _, _ => t.dft
  | [u], t, 0, x => if h : u = t then h ▸ x else t.dft
  | [_], t, _ + 1, _ => t.dft
  | u :: _ :: _, t, 0, x => if h : u = t then h ▸ x.1 else t.dft
  | _ :: v :: r, t, i + 1, x => getTup (v :: r) t i x.2
def mkTup {E : Type} : (l : List Ty) → List (Leaf E) → Option (E → Tup l)
  | [], [] => some fun _ => ()
  | [t], [⟨u, x⟩] => castTo u t x
  | t :: u :: r, ⟨v, x⟩ :: ys => (castTo v t x).bind fun x => (mkTup (u :: r) ys).bind fun y => some fun e => (x e, y e)
  | _, _ => none
def Env.makes {E : Type} (leaf : (t : Ty) → Nat → E → t.den) : List (Nat × Pat) → Nat → Nat → Made E (Env E)
  | [], i, k => ⟨[], i, k⟩
  | (t, p) :: r, i, k =>
    let m := p.make leaf i k
    let n := Env.makes leaf r m.i m.k
    ⟨(t, m.val) :: n.val, n.i, n.k⟩
def stackMakes {E : Type} (leaf : (t : Ty) → Nat → E → t.den) : List (List (Nat × Pat)) → Nat → Nat → Made E (List (Env E))
  | [], i, k => ⟨[], i, k⟩
  | p :: ps, i, k =>
    let m := Env.makes leaf p i k
    let n := stackMakes leaf ps m.i m.k
    ⟨m.val :: n.val, n.i, n.k⟩
def blkMakes {E : Type} (leaf : (t : Ty) → Nat → E → t.den) : List (Option (BK × List Pat)) → Nat → Nat → Made E (List (Blk E))
  | [], i, k => ⟨[], i, k⟩
  | none :: ps, i, k =>
    let n := blkMakes leaf ps i k
    ⟨.dead :: n.val, n.i, n.k⟩
  | some (e, q) :: ps, i, k =>
    let m := Pat.makes leaf q i k
    let n := blkMakes leaf ps m.i m.k
    ⟨.cells e m.val :: n.val, n.i, n.k⟩
/-- The state of a shape, over its plain data. -/
def Shp.make (S : Shp) (size : Nat) : St S.V :=
  let leaf := fun (t : Ty) (i : Nat) (x : S.V) => getTup S.tys t i x
  let m := Env.makes leaf S.tmps 0 0
  let n := stackMakes leaf S.stack m.i m.k
  let b := blkMakes leaf S.blocks n.i n.k
  ⟨m.val, size, n.val, b.val, b.k⟩
def someToks : List (Option Nat) → List Nat
  | [] => []
  | none :: r => someToks r
  | some k :: r => k :: someToks r
def distinct : List Nat → Bool
  | [] => true
  | k :: r => !r.contains k && distinct r
def Shp.ok (S : Shp) : Bool :=
  (S.tmps.all fun p => p.2.ok S.blocks.length) && (S.stack.all fun l => l.all fun p => p.2.ok S.blocks.length) && S.blocks.all fun b => match b with
    | none => true
    | some (_, q) => Pat.oks S.blocks.length q
/-- A state's plain data, if it has the shape. -/
def Shp.take {E : Type} (S : Shp) (size : Nat) (s : St E) : Option (E → S.V) := if s.size = size && S.ok then
  (s.tmps.takes S.tmps).bind fun x => (stackTakes s.stack S.stack).bind fun y => (blkTakes s.blocks S.blocks).bind fun z =>
  let ks := someToks (s.tmps.tokss S.tmps ++ (stackToks s.stack S.stack ++ blkToks s.blocks S.blocks))
  if distinct ks then mkTup S.tys (x ++ (y ++ z)) else none
  else none
/-! ### operations that change something -/
def newBlk {E : Type} (s : St E) (e : BK) (cs : List (AV E)) : St E := { s with blocks := s.blocks ++ [.cells e cs] }
def newTok {E : Type} (s : St E) : St E := { s with nt := s.nt + 1 }
def chunkTy {E : Type} (t : Ty) : Nat → List (AV E) → Option (E → List t.den)
  | 0, [] => some fun _ => []
  | 0, _ => none
  | n + 1, cs => (toTy t (cs.take t.size)).bind fun x => (chunkTy t n (cs.drop t.size)).bind fun y => some fun e => x e :: y e
/-- What is appended to: its token, if it has one; is it full? -/
def AV.base? {E : Type} (e : TypeId) (t : Ty) (a : AV E) : Option (Option Nat × Bool × (E → List t.den)) := match a with
  | .nilsl => some (none, false, fun _ => [])
  | .full e' t' x => (castTo (.sl e' t') (.sl e t) x).map fun x => (none, true, x)
  | .own _ k e' t' x => (castTo (.sl e' t') (.sl e t) x).map fun x => (some k, false, x)
  | _ => none
/-- What is appended to a row that is not frozen; in a function that stores into rows, to nothing, too. -/
def AV.openBase? {E : Type} (mu : Bool) (e : TypeId) (t : Ty) (a : AV E) : Option (Option Nat × (E → List t.den)) := match a with
  | .nilsl => if mu then some (none, fun _ => []) else none
  | .mow _ k e' t' x => (castTo (.sl e' t') (.sl e t) x).map fun x => (some k, x)
  | _ => none
/-- The elements of a slice, as they are now. -/
def AV.now? {E : Type} (u : Ty) (a : AV E) : Option (E → u.den) := match a with
  | .mow _ _ e t x => castTo (.sl e t) u x
  | a => a.to1 u
/-- Is it nil, if it is empty? -/
def AV.emptyNil {E : Type} : AV E → Bool
  | .own z _ _ _ _ => z
  | .mow z _ _ _ _ => z
  | _ => true
def bytesT (P : Program) (t : TypeId) : Nat := P.bytesOf t
def rep {α : Type} : Nat → List α → List α
  | 0, _ => []
  | n + 1, l => l ++ rep n l
def St.drop {E : Type} (s : St E) (k : Option Nat) : St E := match k with
  | none => s
  | some k => { s with tmps := s.tmps.kill k, stack := s.stack.map (Env.kill k), blocks := s.blocks.map (Blk.kill k) }
def appendTo {E R : Type} (P : Program) (s : St E) (dst : Option Tmp) (t u : TypeId) (a b : AV E) (K : Kont R) : Option (E → Option R) := match P.underlying t with
  | some (.slice e) => (tyOf P 8 e).bind fun ty => (a.base? e ty).bind fun b' => (b.to1 (.sl e ty)).bind fun y =>
    if ty.size = sizeT P e && decide (0 < ty.size) && decide (0 < bytesT P e) && decide (t = u) && (zeroCells P e).any (fun z => z.size = ty.size) then
      let own := K E ((newTok (s.drop b'.1)).put dst (.own a.emptyNil s.nt e ty fun e' => catL (b'.2.2 e') (y e')))
      guardIf (some fun e' => fitsL (lenL (b'.2.2 e')) (lenL (y e')) (bytesT P e)) (if b'.2.1 then splitB (fun e' => posI (lenL (y e'))) own (K E (s.put dst a)) else own)
    else none
  | _ => none
def appendOpen {E R : Type} (P : Program) (mu : Bool) (s : St E) (dst : Option Tmp) (t u : TypeId) (a b : AV E) (K : Kont R) : Option (E → Option R) := match P.underlying t with
  | some (.slice e) => (tyOf P 8 e).bind fun ty => (a.openBase? mu e ty).bind fun b' => (b.now? (.sl e ty)).bind fun y =>
    if ty.size = sizeT P e && decide (0 < ty.size) && decide (0 < bytesT P e) && decide (t = u) && (zeroCells P e).any (fun z => z.size = ty.size) then
      guardIf (some fun e' => fitsL (lenL (b'.2 e')) (lenL (y e')) (bytesT P e)) (K E ((newTok (s.drop b'.1)).put dst (.mow a.emptyNil s.nt e ty fun e' => catL (b'.2 e') (y e'))))
    else none
  | _ => none
/-- Is a row that is not frozen appended to? -/
def isOpenBase {E : Type} (mu : Bool) : AV E → Bool
  | .nilsl => mu
  | .mow .. => true
  | _ => false
def isU80 : Option Value → Bool
  | some (.int .u8 n) => n == 0
  | _ => false
def appendStr {E R : Type} (P : Program) (s : St E) (dst : Option Tmp) (t u : TypeId) (a b : AV E) (K : Kont R) : Option (E → Option R) := match P.underlying t, b with
  | some (.slice e), .sym .str y => match P.info? e, tyOf P 8 e with
    | some i, some (.int .u8) => (a.base? e (.int .u8)).bind fun b' =>
      if i.size = 1 && i.bytes = 1 && isU80 i.zero && isStrT P u && !b'.2.1 then
        guardIf (some fun e' => fitsL (lenL (b'.2.2 e')) (lenS (y e')) 1)
          (K E ((newTok (s.drop b'.1)).put dst (.own a.emptyNil s.nt e (.int .u8) fun e' => catL (b'.2.2 e') (bytesI (y e')))))
      else none
    | _, _ => none
  | _, _ => none
/-- What is put into a map. -/
def updTo {E R : Type} (P : Program) (s : St E) (dst : Option Tmp) (t : TypeId) (m : AV E) (ck : Option CK) (k v : AV E) (K : Kont R) : Option (E → Option R) := match P.underlying t, m with
  | some (.map kt et), .mp b => match ck, s.blocks[b]? with
    | some c, some (.cells (.smap mt ks) vs) => (keyTy P kt).bind fun kd => (c.to kd).bind fun _ => if ks.all fun c' => (c'.to kd).isSome && c' != c then K E ({ s with blocks := s.blocks.set b (.cells (.smap mt (ks ++ [c])) (vs ++ [v])) }.put dst (.tup [])) else none
    | _, _ => (keyTy P kt).bind fun kd => (entsAt P s b kd et).bind fun x => (k.to kd).bind fun y => (v.to x.vd).bind fun u =>
      K E ({ s with blocks := s.blocks.set b (.cells .dmap [.ents kd x.vd fun e => putM kd x.vd (x.x e) (y e) (u e)]) }.put dst (.tup []))
  | _, _ => none
def change {E R : Type} (P : Program) (s : St E) (o : Oper) (K : Kont R) : Option (E → Option R) := match o.op with
  | .alloc e => (zeroCells P e).bind fun z => K E ((newBlk s (.row e) (z.toList.map constAV)).put o.dst (.ptr s.blocks.length 0))
  | .box e x => (s.ev x).cells.bind fun cs => K E ((newBlk s (.row e) cs).put o.dst (.ptr s.blocks.length 0))
  | .store t a x => match s.ev a with
    | .ptr b o' => match s.blocks[b]? with
      | some (.cells (.row e) cs) =>
        (s.ev x).cells.bind fun vs => if vs.length = sizeT P t && decide (o' + sizeT P t ≤ cs.length) && (P.info? t).isSome then K E ({ s with blocks := s.blocks.set b (.cells (.row e) (putCells cs o' vs)) }.put o.dst (.tup [])) else none
      | _ => none
    | _ => none
  | .buildSlice t n ps => match P.underlying t with
    | some (.slice e) => match tyOf P 8 e with
      | none => (zeroCells P e).bind fun z => if z.size = sizeT P e && decide (0 < z.size) && decide (n * z.size ≤ 10000) then
          (buildGo (fun i => some (i * sizeT P e, sizeT P e)) (rep n (z.toList.map constAV)) (ps.toList.map fun (i, x) => (i, s.ev x))).bind fun cs => K E ((newBlk s (.row e) cs).put o.dst (.bsl s.blocks.length 0 n))
        else none
      | some u => (zeroCells P e).bind fun z => if z.size = sizeT P e && u.size = sizeT P e && decide (0 < u.size) && decide (n * u.size ≤ 10000) then
        (buildGo (fun i => some (i * sizeT P e, sizeT P e)) (rep n (z.toList.map constAV)) (ps.toList.map fun (i, x) => (i, s.ev x))).bind fun cs =>
        (chunkTy u n cs).bind fun x => K E ((newTok s).put o.dst (.own (decide (0 < n)) s.nt e u x))
      else none
    | _ => none
  | .convert a b x => match P.underlying b, s.ev x with
    | some (.slice e), .sym .str x => match P.underlying e with
      | some (.int .u8) => if isStrT P a then guardIf (some fun e => okS (x e)) (K E (s.put o.dst (.sym (.sl e (.int .u8)) fun e => bytesI (x e)))) else none
      | _ => none
    | _, _ => none
  | .call c => match c.callee with
    | .builtin b => match b, c.args.toList, c.argTypes.toList with
      | .append, [x, y], [t, u] => if t = u then appendTo P s o.dst t u (s.ev x) (s.ev y) K else appendStr P s o.dst t u (s.ev x) (s.ev y) K
      | _, _, _ => none
    | _ => none
  | .panic _ => some fun _ => none
  | .makeMap t none => match P.underlying t with
    | some (.map _ _) => K E ((newBlk s (.smap t []) []).put o.dst (.mp s.blocks.length))
    | _ => none
  | .mapUpdate t m k v => updTo P s o.dst t (s.ev m) (ckOf k) (s.ev k) (s.ev v) K
  | .insert t m k v => updTo P s o.dst t (s.ev m) (ckOf k) (s.ev k) (s.ev v) K
  | .range t x => match s.ev x with
    | .sym .str y => if isStrT P t then K E ((newBlk s .iter [.sym .str y, .sym (.int .i64) fun _ => 0]).put o.dst (.ptr s.blocks.length 0)) else none
    | _ => none
  | .next it true => match s.ev it with
    | .ptr b 0 => match s.blocks[b]? with
      | some (.cells .iter [.sym .str y, .sym (.int .i64) p]) => splitB (fun e => ltI (p e) (lenS (y e)))
          (K E ({ s with blocks := s.blocks.set b (.cells .iter [.sym .str y, .sym (.int .i64) fun e => runeN (y e) (p e)]) }.put o.dst (.tup [.cb true, .sym (.int .i64) p, .sym (.int .i32) fun e => runeI (y e) (p e)])))
          (K E (s.put o.dst (.tup [.cb false])))
      | _ => none
    | _ => none
  | _ => none
/-- Operations on rows that are not frozen. -/
def isMut {E : Type} (mu : Bool) (s : St E) (o : Op) : Bool := match o with
  | .makeSlice .. => true
  | .buildSlice _ 0 _ => mu
  | .indexAddr _ x _ | .slice _ x _ _ _ => match s.ev x with
    | .mow .. => true
    | _ => false
  | .fieldAddr _ x _ | .load _ x | .store _ x _ => match s.ev x with
    | .ep .. => true
    | _ => false
  | .call c => match c.callee with
    | .builtin .append => match c.args.toList with
      | x :: _ => isOpenBase mu (s.ev x)
      | _ => false
    | .builtin .cap => true
    | .builtin .clear => true
    | _ => false
  | _ => false
def truncTo {E R : Type} (s : St E) (dst : Option Tmp) (k : Nat) (e : TypeId) (t : Ty) (xs : E → List t.den) (h : E → Int) (K : Kont R) : Option (E → Option R) :=
  guardIf (some fun e' => boundB (h e') (lenL (xs e'))) (K E ((newTok (s.drop (some k))).put dst (.mow false s.nt e t fun e' => cutL (xs e') 0 (h e'))))
def mutate {E R : Type} (P : Program) (mu : Bool) (s : St E) (o : Oper) (K : Kont R) : Option (E → Option R) := match o.op with
  | .makeSlice t n c => match P.underlying t, (s.ev n).int?, (s.ev c).int? with
    | some (.slice e), some n, some c => (tyOf P 8 e).bind fun u => (zeroCells P e).bind fun z => (toTy (E := E) u (z.toList.map constAV)).bind fun d =>
      if z.size = sizeT P e && u.size = sizeT P e && decide (0 < u.size) then
        guardIf (some fun e' => makeB (n e') (c e') (bytesT P e)) (K E ((newTok s).put o.dst (.mow false s.nt e u fun e' => repL (n e') (d e'))))
      else none
    | _, _, _ => none
  | .buildSlice t n ps => match P.underlying t with
    | some (.slice e) => if n = 0 && ps.isEmpty then (tyOf P 8 e).bind fun u => (zeroCells P e).bind fun z =>
        if z.size = sizeT P e && u.size = sizeT P e && decide (0 < u.size) then K E ((newTok s).put o.dst (.mow false s.nt e u fun _ => [])) else none
      else none
    | _ => none
  | .indexAddr t x i => match s.ev x, (s.ev i).int? with
    | .mow _ k e ty xs, some j => if !isSlT P t ty.size then none else guardIf (some fun e' => inB (j e') (lenL (xs e'))) (K E (s.put o.dst (.ep k e ty xs j 0)))
    | _, _ => none
  | .fieldAddr t x f => match fieldOf P t f, s.ev x with
    | some f, .ep k e ty xs j o' => if sizeT P f.type = 0 || (P.info? f.type).isNone then none else K E (s.put o.dst (.ep k e ty xs j (o' + f.offset)))
    | _, _ => none
  | .load t x => match s.ev x with
    | .ep _ _ ty xs j o' => (partOut P t (fromTy ty fun e' => elT ty (xs e') (j e')) o').bind fun v => K E (s.put o.dst v)
    | _ => none
  | .store t a x => match s.ev a with
    | .ep k e ty xs j o' => (s.ev x).cells.bind fun vs => if vs.length = sizeT P t && decide (o' + sizeT P t ≤ ty.size) && (P.info? t).isSome then
        (toTy ty (putCells (fromTy ty fun e' => elT ty (xs e') (j e')) o' vs)).bind fun y => K E ((s.upd k e ty fun e' l => setL l (j e') (y e')).put o.dst (.tup []))
      else none
    | _ => none
  | .slice t x lo hi mx => match s.ev x with
    | .mow _ k e ty xs => if !isSlT P t ty.size then none else match lo.map s.ev, hi.map s.ev, mx.map s.ev with
      | none, some h, none => h.int?.bind fun h => truncTo s o.dst k e ty xs h K
      | none, some h, some (.capk k' n) => if k' = k && n = ty.size then h.int?.bind fun h => truncTo s o.dst k e ty xs h K else none
      | some l, none, none => l.int?.bind fun l => guardIf (some fun e' => boundB (l e') (lenL (xs e'))) (K E (s.put o.dst (.tl k e ty xs l)))
      | some l, some h, some m => l.int?.bind fun l => h.int?.bind fun h => m.int?.bind fun m => guardIf (some fun e' => andB (eqI (l e') 0) (andB (eqI (h e') 0) (eqI (m e') 0))) (K E (s.put o.dst (.full e ty fun _ => [])))
      | _, _, _ => none
    | _ => none
  | .call c => match c.callee with
    | .builtin b => match b, c.args.toList, c.argTypes.toList with
      | .append, [x, y], [t, u] => appendOpen P mu s o.dst t u (s.ev x) (s.ev y) K
      | .cap, [x], [t] => match s.ev x with
        | .mow _ k _ ty _ => if isSlT P t ty.size && decide (0 < ty.size) then K E (s.put o.dst (.capk k ty.size)) else none
        | _ => none
      | .clear, [x], [t] => match P.underlying t, s.ev x with
        | some (.slice el), .tl k e ty xs l => (zeroCells P el).bind fun z => (toTy (E := E) ty (z.toList.map constAV)).bind fun d =>
          if z.size = ty.size && e = el && decide (0 < ty.size) then guardIf (some fun e' => ltI (l e') (lenL (xs e'))) (K E ((s.upd k e ty fun e' x => wipeL x (l e') (lenL (xs e')) (d e')).put o.dst (.tup []))) else none
        | _, _ => none
      | _, _, _ => none
    | _ => none
  | _ => none
/-- What must be frozen ahead of an operation. -/
def toShut {E : Type} (L : Specs) (s : St E) (o : Op) : List (AV E) := match o with
  | .convert _ _ x => [s.ev x]
  | .store _ a x => match s.ev a with
    | .ep .. => [s.ev x]
    | _ => []
  | .mapUpdate _ _ _ v | .insert _ _ _ v => [s.ev v]
  | .call c => match c.callee with
    | .value f => match s.ev f with
      | .fn g _ => match L.get g with
        | some (.fn _) => c.args.toList.map s.ev
        | _ => []
      | _ => []
    | _ => []
  | _ => []
def prep {E : Type} (L : Specs) (s : St E) (o : Op) : St E := s.frees (AV.opens (toShut L s o))
/-- A function that stores into rows: its list of specs has this mark. -/
def mutMark : FuncId := 16777216
def marked (L : Specs) : Bool := (L.get mutMark).isSome
/-- A look-up among keys that are known: these in turn. -/
def lookCase {E : Type} (P : Program) (s : St E) (o : Op) : Option ((kd : Ty) × (E → kd.den) × List CK × List (AV E) × AV E) := match o with
  | .lookup t m k true => match P.underlying t, s.ev m with
    | some (.map kt et), .mp b => match s.blocks[b]? with
      | some (.cells (.smap _ ks) vs) => (keyTy P kt).bind fun kd => ((s.ev k).to kd).bind fun y => (zeroAV P et).map fun z => ⟨kd, y, ks, vs, z⟩
      | _ => none
    | _, _ => none
  | _ => none
def lookK {E R : Type} (s : St E) (dst : Option Tmp) (K : Kont R) (kd : Ty) (y : E → kd.den) (z : AV E) : List CK → List (AV E) → Option (E → Option R)
  | [], [] => K E (s.put dst (.tup [z, .cb false]))
  | c :: ks, v :: vs => (c.to kd).bind fun u => splitB (fun e => eqD kd (y e) u) (K E (s.put dst (.tup [v, .cb true]))) (lookK s dst K kd y z ks vs)
  | _, _ => none
/-- An element at a place that is not known: the places in turn. -/
def upTo {α : Type} (f : Nat → Option α) : Nat → Nat → Option (List α)
  | _, 0 => some []
  | m, n + 1 => (f m).bind fun v => (upTo f (m + 1) n).bind fun r => some (v :: r)
def caseOut {E : Type} (P : Program) (s : St E) (o : Op) : Option ((E → Int) × List (AV E)) := match o with
  | .index t x i => match s.ev x, (s.ev i).int? with
    | .ag cs, some j => match P.underlying t with
      | some (.array n el) => (upTo (fun m => partOut P el cs (m * sizeT P el)) 0 n).map fun vs => (j, vs)
      | _ => none
    | _, _ => none
  | .indexAddr t x i => match s.ev x, (s.ev i).int? with
    | .ptr b p, some j => match P.underlying t with
      | some (.array n el) => if (P.info? el).isSome then (upTo (fun m => some (AV.ptr b (p + m * sizeT P el))) 0 n).map fun vs => (j, vs) else none
      | _ => none
    | .bsl b p n, some j => match P.underlying t with
      | some (.slice el) => if (P.info? el).isSome then (upTo (fun m => some (AV.ptr b (p + m * sizeT P el))) 0 n).map fun vs => (j, vs) else none
      | _ => none
    | _, _ => none
  | _ => none
def caseK {E R : Type} (s : St E) (dst : Option Tmp) (K : Kont R) (j : E → Int) : Nat → List (AV E) → Option (E → Option R)
  | _, [] => some fun _ => none
  | m, v :: r => splitB (fun e => eqI (j e) (m : Int)) (K E (s.put dst v)) (caseK s dst K j (m + 1) r)
def oneOrTup {E : Type} : List (AV E) → AV E
  | [v] => v
  | r => .tup r
def callSpec {E R : Type} (k : Nat) (S : Spec) (args : List (AV E)) (s : St E) (dst : Option Tmp) (K : Kont R) : Option (E → Option R) :=
  (toTup S.args args).bind fun x => (K (E × Tup S.res) ((s.comap Prod.fst).put dst (oneOrTup (ofTup S.res Prod.snd)))).bind fun f =>
  some fun e => bindO (S.F k (x e)) fun y => f (e, y)
def argEnv {E : Type} : Nat → List (AV E) → Env E
  | _, [] => []
  | i, v :: r => (i, v) :: argEnv (i + 1) r
def resOf {E : Type} (P : Program) (s : St E) : List ResultVar → Option (List (AV E))
  | [] => some []
  | .tmp t :: r => (resOf P s r).map fun l => s.tmps.get t :: l
  | .cell a t :: r => (loadOut P s t (s.tmps.get a)).bind fun v => (resOf P s r).bind fun l => some (v.2 :: l)
def dstOk {E : Type} (s : St E) (o : Oper) : Bool := match o.dst with
  | none => true
  | some d => decide (d < s.size)
/-- May a function be called, and walked? -/
def callable (P : Program) (g : FuncId) : Bool := match P.funcs[g]? with
  | some fn => fn.body.isSome && !(fn.name == "runtime.NumGoroutine")
  | none => false
abbrev Inl (R : Type) := (E : Type) → St E → FuncId → List (AV E) → Option Tmp → Kont R → Option (E → Option R)
def isNP {E : Type} (b : Nat) : AV E → Bool
  | .nilp => true
  | .ptr b' o => b' = b && o = 0
  | .np b' o => b' = b && o = 0
  | _ => false
def callX {E R : Type} (X : Spx) (args : List (AV E)) (s : St E) (dst : Option Tmp) (K : Kont R) : Option (E → Option R) := match args with
  | [.ptr b 0] => match s.blocks[b]? with
    | some (.cells (.row el) [c0, c1]) => if isNP b c0 then match X with
      | .copy T => if el = T then K E ({ s with blocks := s.blocks.set b (.cells (.row el) [.ptr b 0, c1]) }.put dst (.tup [])) else none
      | .str T eb => if el = T then match c1 with
        | .nilsl => K E (s.put dst (.sym .str fun _ => ByteArray.empty))
        | .own true k e (.int .u8) x => if e = eb then K E ((s.drop (some k)).put dst (.sym .str fun e => ofBytes (x e))) else none
        | _ => none
        else none
      else none
    | _ => none
  | _ => none
def callRef {E R : Type} (k : Nat) (S : RSpec) (args : List (AV E)) (s : St E) (dst : Option Tmp) (K : Kont R) : Option (E → Option R) := match args with
  | .ptr b 0 :: vs => match s.blocks[b]? with
    | some (.cells (.row el) cs) => if el = S.el then (toTup (.agg S.t :: S.args) (.ag cs :: vs)).bind fun x =>
        match ofTup (.agg S.t :: S.res) (Prod.snd : E × Tup (.agg S.t :: S.res) → Tup (.agg S.t :: S.res)) with
        | .ag cs' :: rs => (K (E × Tup (.agg S.t :: S.res)) ({ s.comap (Prod.fst : E × Tup (.agg S.t :: S.res) → E) with blocks := (s.comap (Prod.fst : E × Tup (.agg S.t :: S.res) → E)).blocks.set b (.cells (.row el) cs') }.put dst (oneOrTup rs))).bind fun f =>
          some fun e => bindO (S.F k (x e)) fun y => f (e, y)
        | _ => none
      else none
    | _ => none
  | _ => none
def callOut {E R : Type} (P : Program) (k : Nat) (L : Specs) (inl : Inl R) (s : St E) (f : AV E) (xs : List (AV E)) (dst : Option Tmp) (K : Kont R) : Option (E → Option R) := match f with
  | .fn g caps => if callable P g then (match L.get g with
    | some (.fn S) => callSpec k S (xs ++ caps) s dst K
    | some (.x X) => callX X (xs ++ caps) s dst K
    | some (.ref S) => callRef k S (xs ++ caps) s dst K
    | some (.frag _) => none
    | some (.part _) => none
    | none => inl E s g (xs ++ caps) dst K) else none
  | _ => none
/-- One operation; an inlined call goes to 'inl'. -/
def step {R : Type} (P : Program) (k : Nat) (L : Specs) (inl : Inl R) (o : Oper) (E : Type) (s : St E) (K : Kont R) : Option (E → Option R) :=
  if !dstOk s o then none else
  match quiet P s o.op with
  | some c => guardIf c.1 (K E (s.put o.dst c.2))
  | none => match caseOut P s o.op with
    | some (j, vs) => caseK s o.dst K j 0 vs
    | none => match lookCase P s o.op with
    | some ⟨kd, y, ks, vs, z⟩ => lookK s o.dst K kd y z ks vs
    | none => match o.op with
    | .call c => match c.callee with
      | .value f => callOut P k L inl s (s.ev f) (c.args.toList.map s.ev) o.dst K
      | _ => if isMut (marked L) s o.op then mutate P (marked L) s o K else change P s o K
    | _ => if isMut (marked L) s o.op then mutate P (marked L) s o K else change P s o K
/-- The operations of a region in their order. -/
def stepList {R : Type} (stp : Nat → Oper → Kont R → Kont R) (ops : Array Oper) : Nat → List Oper → Kont R → Kont R
  | _, [], K => K
  | i, o :: r, K => fun E s => match o.guard with
    | none => stp i o (stepList stp ops (i + 1) r K) E s
    | some (j, want) => match (ops[j]?).bind (·.dst) with
      | none => none
      | some d => match s.tmps.get d with
        | .cb b => if b = want then stp i o (stepList stp ops (i + 1) r K) E s else (if dstOk s o then stepList stp ops (i + 1) r K E (s.put o.dst (.tup [])) else none)
        | .sym .bool x =>
          if !dstOk s o then none else
          let yes := fun b => let s1 : St E := s.put (some d) (.cb b)
            if b = want then stp i o (stepList stp ops (i + 1) r K) E s1 else stepList stp ops (i + 1) r K E (s1.put o.dst (.tup []))
          splitB x (yes true) (yes false)
        | .tup [] => if dstOk s o then stepList stp ops (i + 1) r K E (s.put o.dst (.tup [])) else none
        | _ => none
/-- Is a block of ours handed to it? -/
def isRef (L : Specs) (f : FuncId) : Bool := match L.get f with
  | some (.ref _) => true
  | _ => false
def anyRef (L : Specs) : Bool := L.any fun p => match p.2 with
  | .ref _ => true
  | _ => false
/-- Regions whose operations may come in another order: what leaves the world alone is taken first. -/
def keepsBlocks (P : Program) (L : Specs) (o : Op) : Bool := match o with
  | .alloc _ | .box .. | .store .. | .buildSlice .. | .makeMap .. | .mapUpdate .. | .insert .. | .range .. | .next .. => false
  | .convert _ b _ => !isSl P b
  | .call c => match c.callee with
    | .builtin .append => false
    | .value (.func f) => !isRef L f
    | .value _ => !anyRef L
    | _ => true
  | _ => true
def quietD {E : Type} (P : Program) (keep : Bool) (s : St E) (o : Op) : Out E := match o with
  | .load t x => match s.ev x with
    | .ptr b o => if keep then loadOut P s t (.ptr b o) else none
    | v => loadOut P s t v
  | .lookup t x k two => if keep then lookOut P s t (s.ev x) (s.ev k) two else none
  | o => quiet P s o
inductive Gst (E : Type) where
  | yes
  | no
  | ask (d : Nat) (x : E → Bool)
  | bad
def gst {E : Type} (ops : Array Oper) (s : St E) (o : Oper) : Gst E := match o.guard with
  | none => .yes
  | some (j, want) => match (ops[j]?).bind (·.dst) with
    | none => .bad
    | some d => match s.tmps.get d with
      | .cb b => if b = want then .yes else .no
      | .tup [] => .no
      | .sym .bool x => .ask d x
      | _ => .bad
def isCallV (o : Op) : Bool := match o with
  | .call c => match c.callee with
    | .value _ => true
    | _ => false
  | _ => false
/-- May number j change our blocks? -/
def changes (P : Program) (L : Specs) (ops : Array Oper) (j : Nat) : Bool := match ops[j]? with
  | some o => !keepsBlocks P L o.op
  | none => false
/-- Does number i wait for number j? -/
def waits (ops : Array Oper) (i j : Nat) : Bool := match ops[i]? with
  | some o => o.after.any fun e => Region.binds .any e && e.on == j
  | none => false
/-- All that may change our blocks, and has not come up, waits for number i. -/
def lateOK (P : Program) (L : Specs) (ops : Array Oper) (l : Array Bool) (i : Nat) : Bool := (List.range ops.size).all fun j => !changes P L ops j || l.getD j true || waits ops j i
/-- May this one be taken first? -/
def easy {E : Type} (P : Program) (L : Specs) (keep : Bool) (ops : Array Oper) (s : St E) (l : Array Bool) (i : Nat) : Bool := match ops[i]? with
  | none => false
  | some o => (match gst ops s o with
    | .yes => (quietD P (keep && lateOK P L ops l i) s o.op).isSome
    | .no => true
    | _ => false) && Region.free .any ops l i && dstOk s o && (!keep || keepsBlocks P L o.op)
def asks {E : Type} (ops : Array Oper) (s : St E) (i : Nat) : Option (Nat × (E → Bool)) := match ops[i]? with
  | none => none
  | some o => match gst ops s o with
    | .ask d x => some (d, x)
    | _ => none
def isCopy {E : Type} (L : Specs) (s : St E) (o : Op) : Bool := match o with
  | .call c => match c.callee with
    | .value f => match s.ev f with
      | .fn g _ => match L.get g with
        | some (.x (.copy _)) => true
        | _ => false
      | _ => false
    | _ => false
  | _ => false
/-- Both say the same. -/
noncomputable def bothO {R : Type} (x y : Option R) : Option R := open Classical in if x = y then x else none
theorem bothO_same {R : Type} (x : Option R) : bothO x x = x := by unfold bothO; rw [if_pos rfl]
theorem bothO_some {R : Type} {x y : Option R} {r : R} (h : bothO x y = some r) : x = some r ∧ y = some r := by
  unfold bothO at h
  split at h
  · rename_i e; exact ⟨h, e ▸ h⟩
  · cases h
noncomputable def allO {E R : Type} : List (Option (E → Option R)) → Option (E → Option R)
  | [] => none
  | [x] => x
  | x :: y :: r => x.bind fun f => (allO (y :: r)).map fun g e => bothO (f e) (g e)
theorem allO_spec {E R : Type} {e : E} {r : R} : ∀ (xs : List (Option (E → Option R))) {F : E → Option R}, allO xs = some F → F e = some r → ∀ x ∈ xs, ∃ f, x = some f ∧ f e = some r
  | [], F, h, _ => by cases h
  | [x], F, h, hF => by
    intro y hy
    rw [List.mem_singleton] at hy
    subst hy
    exact ⟨F, h, hF⟩
  | x :: y :: ys, F, h, hF => by
    unfold allO at h
    obtain ⟨f, hx, h⟩ := Option.bind_eq_some_iff.1 h
    · obtain ⟨g, hg, rfl⟩ := Option.map_eq_some_iff.1 h
      obtain ⟨h1, h2⟩ := bothO_some hF
      intro z hz
      rcases List.mem_cons.1 hz with rfl | hz
      · exact ⟨f, hx, h1⟩
      · exact allO_spec (y :: ys) hg h2 z hz
noncomputable def drawGo {R : Type} (P : Program) (k : Nat) (L : Specs) (keep : Bool) (ops : Array Oper) : Nat → Nat → Array Bool → Kont R → Kont R
  | 0, _, _, _ => fun _ _ => none
  | n + 1, f, l, K => fun E s =>
    let rs := Region.ready .any ops l
    if rs.isEmpty then K E s else match f with
    | 0 => none
    | f' + 1 => match rs.find? (easy P L keep ops s l) with
      | some i => match ops[i]? with
        | some o => match gst ops s o with
          | .yes => match quietD P (keep && lateOK P L ops l i) s o.op with
            | some c => guardIf c.1 (drawGo P k L keep ops n f' (l.setIfInBounds i true) K E (s.put o.dst c.2))
            | none => none
          | _ => drawGo P k L keep ops n f' (l.setIfInBounds i true) K E (s.put o.dst (.tup []))
        | none => none
      | none => match rs.findSome? (asks ops s) with
        | some (d, x) => splitB x (drawGo P k L keep ops n f l K E (s.put (some d) (.cb true))) (drawGo P k L keep ops n f l K E (s.put (some d) (.cb false)))
        | none => if 4 ≤ rs.length then none else allO (rs.map fun i => match ops[i]? with
            | some o => match gst ops s o with
              | .yes => if keep && keepsBlocks P L o.op && (!isCallV o.op || isCopy L s o.op) then none else step P k L (fun _ _ _ _ _ _ => none) o E s (drawGo P k L keep ops n f' (l.setIfInBounds i true) K)
              | _ => none
            | none => none)
/-- Each waits for ones ahead of it alone; a tail waits for all that is not of it, and nothing else waits for it. -/
def splitOK (ops : Array Oper) (J : Array Bool) : Bool :=
  J.size == ops.size && ((List.range ops.size).all fun i => match ops[i]? with
    | some o => (o.after.all fun e => !Region.binds .any e || (decide (e.on < i) && (J.getD i false || !J.getD e.on false))) && (!J.getD i false || (List.range ops.size).all fun j => J.getD j false || waits ops i j)
    | none => false)
/-- What may change our blocks, and what waits for such. -/
def tailOf (P : Program) (L : Specs) (ops : Array Oper) : Array Bool := ops.toList.foldl (fun J o => J.push (!keepsBlocks P L o.op || o.after.any fun e => Region.binds .any e && J.getD e.on false)) #[]
def isLoad (o : Op) : Bool := match o with
  | .load .. => true
  | _ => false
/-- Some load, and each waited for by all that may change our blocks. -/
def lateMode (P : Program) (L : Specs) (ops : Array Oper) : Bool := (ops.any fun o => isLoad o.op) && (List.range ops.size).all fun i => match ops[i]? with
  | some o => !isLoad o.op || (List.range ops.size).all fun j => !changes P L ops j || waits ops j i
  | none => true
def heads (J : Array Bool) : Nat := (J.toList.filter not).length
def tails (J : Array Bool) : Nat := (J.toList.filter id).length
def H.sub : H → Nat → Option H
  | .ops i h r, j => if i = j then some h else r.sub j
  | _, _ => none
/-- Are these paths left out? -/
def H.isStop : H → Bool
  | .stop => true
  | _ => false
/-- Two ways, the second where the first is none. -/
def H.alts : H → Option (H × H)
  | .alt a b => some (a, b)
  | _ => none
def orE {E R : Type} (a b : Option (E → Option R)) : Option (E → Option R) := match a with
  | some f => some f
  | none => b
/-- Is the last operation waited for by nothing, and all others by some one behind them? -/
def sinkOK (ops : Array Oper) : Bool := (List.range ops.size).all fun i => match ops[i]? with
  | some o => (o.after.all fun e => !Region.binds .any e || decide (e.on < i)) && (i + 1 == ops.size || (List.range ops.size).any fun j => waits ops j i)
  | none => false
/-- A call of a function that is not told: it is to be inlined. -/
def isInl {E : Type} (L : Specs) (s : St E) (o : Op) : Bool := match o with
  | .call c => match c.callee with
    | .value f => match s.ev f with
      | .fn g _ => (L.get g).isNone
      | _ => false
    | _ => false
  | _ => false
def lastInl {E : Type} (L : Specs) (s : St E) (ops : Array Oper) : Option Oper := match ops[ops.size - 1]? with
  | some o => if o.guard.isNone && isInl L s o.op && sinkOK ops && decide (0 < ops.size) then some o else none
  | none => none
def lastJ (ops : Array Oper) : Array Bool := (Array.replicate (ops.size - 1) false).push true
/-- An inlined call. -/
def inlGo {R : Type} (P : Program) (rec : H → Code → (E : Type) → St E → Kont R → Option (E → Option R)) (h : H) (i : Nat) : Inl R := fun E s g args dst K => match h.sub i, P.funcs[g]? with
  | some h', some fn => match fn.body with
    | some body => if args.length ≤ fn.ntmps then
      let back : Kont R := fun E' s' => match resOf P s' fn.results.toList, s'.stack with
        | some r, top :: rest => K E' ({ s' with tmps := top, size := s.size, stack := rest }.put dst (oneOrTup r))
        | _, _ => none
      rec h' body E { s with tmps := argEnv 0 args, size := fn.ntmps, stack := s.tmps :: s.stack } back else none
    | none => none
  | _, _ => none
/-- Where the code is this one. -/
noncomputable def fragO {R : Type} (c d : Code) (x : Option R) : Option R := open Classical in if c = d then x else none
theorem fragO_same {R : Type} (c : Code) (x : Option R) : fragO c c x = x := by unfold fragO; rw [if_pos rfl]
theorem fragO_some {R : Type} {c d : Code} {x : Option R} {r : R} (h : fragO c d x = some r) : c = d ∧ x = some r := by
  unfold fragO at h
  split at h
  · exact ⟨by assumption, h⟩
  · cases h
/-- A part that is told by hand. -/
noncomputable def fragK {E R : Type} (k : Nat) (S : FSpec) (c : Code) (s : St E) (K : Kont R) : Option (E → Option R) :=
  if s.size = S.size && decide (S.d < s.size) then match s.tmps.get S.m with
  | .mp b => match s.blocks[b]? with
    | some (.cells .dmap [.ents kd vd x]) => if h1 : kd = S.kd then if h2 : vd = S.vd then
      (K (E × S.res.den) ((({ s with tmps := s.tmps.without (S.d :: S.clob) } : St E).comap Prod.fst).put (some S.d) (.sym S.res Prod.snd))).map fun f e => fragO c (.seq S.code (.seq S.then_ S.last_)) (bindO (S.F k (h1 ▸ h2 ▸ x e)) fun y => f (e, y))
      else none else none
    | _ => none
  | _ => none else none
/-- A part that reads one value. -/
noncomputable def partK {E R : Type} (k : Nat) (S : GSpec) (c : Code) (s : St E) (K : Kont R) : Option (E → Option R) :=
  if s.size = S.size && decide (S.d < s.size) then ((s.tmps.get S.m).to1 S.a).bind fun x =>
    (K (E × S.res.den) ((({ s with tmps := s.tmps.without (S.d :: S.clob) } : St E).comap Prod.fst).put (some S.d) (.sym S.res Prod.snd))).map fun f e => fragO c (.seq S.code S.then_) (bindO (S.F k (x e)) fun y => f (e, y))
  else none
/-- The compiler. -/
noncomputable def comp {R : Type} (P : Program) (k : Nat) (L : Specs) : Nat → H → Code → (E : Type) → St E → (Kn Kr : Kont R) → (Kx : List (Nat × Kont R)) → Option (E → Option R)
  | 0, _, _, _, _, _, _, _ => none
  | n + 1, h, c, E, s, Kn, Kr, Kx => if h.isStop then some fun _ => none else match h.alts with
    | some (ha, hb) => orE (comp P k L n ha c E s Kn Kr Kx) (comp P k L n hb c E s Kn Kr Kx)
    | none => match c with
    | .skip => Kn E s
    | .ret => Kr E s
    | .exit id => (Kx.lookup id).bind fun K => K E s
    | .region _ ops draw => if draw then (if Region.noSelect ops && P.follows .mixedOrders then
        (match lastInl L s ops with
        | some o => drawGo P k L (ops.toList.dropLast.all fun o => keepsBlocks P L o.op) ops (3 * ops.size + 1) (ops.size - 1) (lastJ ops) (fun E s => step P k L (inlGo P (fun h' body E s back => comp P k L n h' body E s back back []) h (ops.size - 1)) o E (prep L s o.op) Kn) E s
        | none => if splitOK ops (tailOf P L ops) && (tailOf P L ops).any id && heads (tailOf P L ops) + tails (tailOf P L ops) == ops.size then
          drawGo P k L true ops (3 * ops.size + 1) (heads (tailOf P L ops)) (tailOf P L ops) (fun E s => drawGo P k L false ops (3 * ops.size + 1) (tails (tailOf P L ops)) ((tailOf P L ops).map not) Kn E s) E s
        else drawGo P k L ((ops.all fun o => keepsBlocks P L o.op) || lateMode P L ops) ops (3 * ops.size + 1) ops.size (Array.replicate ops.size false) Kn E s) else none) else
      let stp := fun (i : Nat) (o : Oper) (K : Kont R) => fun (E : Type) (s : St E) => step P k L (inlGo P (fun h' body E s back => comp P k L n h' body E s back back []) h i) o E (prep L s o.op) K
      stepList stp ops 0 ops.toList Kn E s
    | .block id body => comp P k L n h body E s Kn Kr ((id, Kn) :: Kx)
    | .seq a b => match h with
      | .two ha hb => comp P k L n ha a E s (fun E' s' => comp P k L n hb b E' s' Kn Kr Kx) Kr Kx
      | .join S ha hb =>
        let G := gets (comp P k L n hb b S.V (S.make s.size) Kn Kr Kx)
        comp P k L n ha a E s (fun _ s' => (S.take s.size s').map fun lv e => jn G (lv e)) Kr Kx
      | .frag f ha => match L.get f with
        | some (.frag S) => match b with
          | .seq b1 (.seq b2 b3) => fragK k S (.seq a (.seq b1 b2)) s (fun E' s' => comp P k L n ha b3 E' s' Kn Kr Kx)
          | _ => none
        | some (.part S) => match b with
          | .seq b1 b2 => partK k S (.seq a b1) s (fun E' s' => comp P k L n ha b2 E' s' Kn Kr Kx)
          | _ => none
        | _ => none
      | _ => none
    | .cond x a b => match h with
      | .two ha hb => match s.ev x with
        | .cb true => comp P k L n ha a E s Kn Kr Kx
        | .cb false => comp P k L n hb b E s Kn Kr Kx
        | .sym .bool y => splitB y (comp P k L n ha a E s Kn Kr Kx) (comp P k L n hb b E s Kn Kr Kx)
        | _ => none
      | _ => none
    | .loop body => match h with
      | .loop S h' =>
        (S.take s.size s).map fun lv e => iter (fun again => gets (comp P k L n h' body S.V (S.make s.size) (fun _ s' => (S.take s.size s').map fun lv e => again (lv e)) Kr Kx)) k (lv e)
      | _ => none
    | .refuse _ => some fun _ => none
    | .label _ => Kn E s
    | .scope c => comp P k L n h c E s Kn Kr Kx
    | _ => none
def fnSt (args : List Ty) (n : Nat) : St (Tup args) := ⟨argEnv 0 (ofTup args fun e => e), n, [], [], 0⟩
def fnRet (P : Program) (res : List Ty) (rs : List ResultVar) : Kont (Tup res) := fun _ s => (resOf P s rs).bind fun l => (toTup res (AV.views l)).map fun x e => some (x e)
/-- A function's plain form. -/
noncomputable def fnF (P : Program) (L : Specs) (n : Nat) (h : H) (f : FuncId) (args res : List Ty) (k : Nat) : Tup args → Option (Tup res) :=
  gets ((P.funcs[f]?).bind fun fn => fn.body.bind fun c => if args.length ≤ fn.ntmps then comp P k L n h c (Tup args) (fnSt args fn.ntmps) (fnRet P res fn.results.toList) (fnRet P res fn.results.toList) [] else none)
noncomputable def mkSpec (P : Program) (L : Specs) (n : Nat) (h : H) (f : FuncId) (args res : List Ty) : Spec := ⟨args, res, fnF P L n h f args res⟩
/-- A function whose first argument goes to a block: the block lies at number 0; the pointer is kept below all frames. -/
def fnStR (el : TypeId) (t : Ty) (args : List Ty) (n : Nat) : St (Tup (.agg t :: args)) := match ofTup (.agg t :: args) (fun e => e) with
  | .ag cs :: vs => ⟨argEnv 0 (.ptr 0 0 :: vs), n, [[(0, .ptr 0 0)]], [.cells (.row el) cs], 0⟩
  | _ => ⟨[], n, [], [], 0⟩
def fnRetR (P : Program) (el : TypeId) (t : Ty) (res : List Ty) (rs : List ResultVar) : Kont (Tup (.agg t :: res)) := fun _ s => match s.stack with
  | [top] => match top.get 0 with
    | .ptr b 0 => match s.blocks[b]? with
      | some (.cells (.row el') cs) => if el' = el then (resOf P s rs).bind fun l => (toTup (.agg t :: res) (AV.views (.ag cs :: l))).map fun x e => some (x e) else none
      | _ => none
    | _ => none
  | _ => none
noncomputable def fnFR (P : Program) (L : Specs) (n : Nat) (h : H) (f : FuncId) (el : TypeId) (t : Ty) (args res : List Ty) (k : Nat) : Tup (.agg t :: args) → Option (Tup (.agg t :: res)) :=
  gets ((P.funcs[f]?).bind fun fn => fn.body.bind fun c => if args.length + 1 ≤ fn.ntmps then comp P k L n h c (Tup (.agg t :: args)) (fnStR el t args fn.ntmps) (fnRetR P el t res fn.results.toList) (fnRetR P el t res fn.results.toList) [] else none)
end Go.Proofs.YtmmbedlegmbppaaDoor.R
