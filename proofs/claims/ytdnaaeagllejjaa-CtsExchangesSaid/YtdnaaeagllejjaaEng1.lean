/-
  A symbolic simulator of the model's machine, in plain Lean: symbolic values, heap entries, and one step. Its soundness is proved in the texts that follow.
-/
import Derived.AtR
import Derived.Orders
import Derived.KernelRfl
namespace Go.Sim
noncomputable section

/- Lists, by recursors (the kernel evaluates these fast). -/
def nth {α : Type} (l : List α) : Nat → Option α :=
  List.rec (motive := fun _ => Nat → Option α) (fun _ => none) (fun a _ ih n => Nat.rec (motive := fun _ => Option α) (some a) (fun m _ => ih m) n) l
def setN {α : Type} (l : List α) : Nat → α → List α :=
  List.rec (motive := fun _ => Nat → α → List α) (fun _ _ => []) (fun a t ih n v => Nat.rec (motive := fun _ => List α) (v :: t) (fun m _ => a :: ih m v) n) l
def app {α : Type} (l r : List α) : List α := List.rec (motive := fun _ => List α) r (fun a _ ih => a :: ih) l
def takeN {α : Type} (l : List α) : Nat → List α :=
  List.rec (motive := fun _ => Nat → List α) (fun _ => []) (fun a _ ih n => Nat.rec (motive := fun _ => List α) [] (fun m _ => a :: ih m) n) l
def dropN {α : Type} (l : List α) : Nat → List α :=
  List.rec (motive := fun _ => Nat → List α) (fun _ => []) (fun a t ih n => Nat.rec (motive := fun _ => List α) (a :: t) (fun m _ => ih m) n) l
def mapN {α β : Type} (f : α → β) (l : List α) : List β := List.rec (motive := fun _ => List β) [] (fun a _ ih => f a :: ih) l
def lenN {α : Type} (l : List α) : Nat := List.rec (motive := fun _ => Nat) 0 (fun _ _ ih => Nat.succ ih) l
def repN {α : Type} (a : α) (n : Nat) : List α := Nat.rec (motive := fun _ => List α) [] (fun _ ih => a :: ih) n
def fromN (n : Nat) : Nat → List Nat := Nat.rec (motive := fun _ => Nat → List Nat) (fun _ => []) (fun _ ih k => k :: ih (Nat.succ k)) n
/-- the values v laid over l from place i on -/
def overN {α : Type} (l : List α) : Nat → List α → List α :=
  List.rec (motive := fun _ => Nat → List α → List α) (fun _ _ => [])
    (fun a t ih n v => Nat.rec (motive := fun _ => List α) (List.casesOn (motive := fun _ => List α) v (a :: t) (fun x v' => x :: ih 0 v')) (fun m _ => a :: ih m v) n) l

/- Symbolic numbers. -/
inductive SI where
  | lit (n : Int)
  | sym (n : Int)
  | b8 (x : BitVec 8)
  | b32 (x : BitVec 32)
  | b64 (x : BitVec 64)
def SI.den : SI → Int
  | .lit n => n
  | .sym n => n
  | .b8 x => (x.toNat : Int)
  | .b32 x => (x.toNat : Int)
  | .b64 x => (x.toNat : Int)
inductive SB where
  | lit (b : Bool)
  | sym (b : Bool)
def SB.den : SB → Bool
  | .lit b => b
  | .sym b => b
inductive SN where
  | lit (n : Nat)
  | sym (n : Nat)
  /-- a byte, and a number more -/
  | byt (o : Nat) (x : BitVec 8)
def SN.den : SN → Nat
  | .lit n => n
  | .sym n => n
  | .byt o x => o + x.toNat
/-- strings: known whole; unknown; byte by byte -/
inductive SStr where
  | lit (s : ByteArray)
  | sym (s : ByteArray)
  | bytes (l : List SI)
def bytesOf (l : List SI) : ByteArray := ⟨(l.map fun i => UInt8.ofNat i.den.toNat).toArray⟩
def SStr.den : SStr → ByteArray
  | .lit s => s
  | .sym s => s
  | .bytes l => bytesOf l

/-- where a name lies: the block, the first cell, and what a slice from its first cell on may grow to -/
structure Loc where
  blk : Nat
  off : Nat
  cap : Nat
abbrev Val := Nat → Option Loc
inductive SC where
  | lit (n : Nat)
  | sym (n : Nat)
  | rest (nm : Nat) (k : Nat)
def SC.den (β : Val) : SC → Option Nat
  | .lit n => some n
  | .sym n => some n
  | .rest nm k => (β nm).map fun l => l.cap - k
structure SA where
  nm : Nat
  off : SN
def SA.den (β : Val) (a : SA) : Option Addr := (β a.nm).map fun l => { block := l.blk, off := l.off + a.off.den, spot := none }
inductive SFn where
  | fn (f : Fn)
  | yield (nm : Nat)
def SFn.den (β : Val) : SFn → Option Fn
  | .fn f => some f
  | .yield nm => (β nm).map fun l => .yield l.blk

inductive SV where
  | int (k : IntKind) (n : SI)
  | bool (b : SB)
  | str (s : SStr)
  | ptr (a : SA)
  | nilPtr
  | slice (a : SA) (len : SN) (cap : SC)
  | nilSlice
  | map (nm : Nat)
  | nilMap
  | func (fn : SFn) (first captured : List SV)
  | nilFunc
  | iface (t : TypeId) (v : SV)
  | nilIface
  | agg (l : List SV)
  | tuple (l : List SV)
  | val (v : Value)
  /-- 'x[n:]' of a slice: it points n cells further, unless nothing is left of the capacity -/
  | tail (a : SA) (n : SN) (len : SN) (c : SC)
instance : Inhabited SV := ⟨.tuple []⟩
/-- a slice's length is at most its capacity -/
def sliceV (x : Addr) (l c : Nat) : Option Value := if l ≤ c then some (.slice (some x) l c) else none
def tailV (x : Addr) (n l c : Nat) : Option Value := if l ≤ c then some (.slice (some (if c = 0 then x else x.add n)) l c) else none
mutual
def SV.den (β : Val) : SV → Option Value
  | .int k n => some (.int k n.den)
  | .bool b => some (.bool b.den)
  | .str s => some (.string s.den)
  | .ptr a => (a.den β).map fun x => .pointer (some x)
  | .nilPtr => some (.pointer none)
  | .slice a l c => (a.den β).bind fun x => (c.den β).bind fun c => sliceV x l.den c
  | .nilSlice => some (.slice none 0 0)
  | .map nm => (β nm).map fun l => .map (some l.blk)
  | .nilMap => some (.map none)
  | .func f xs ys => (f.den β).bind fun f => (SV.denL β xs).bind fun xs => (SV.denL β ys).map fun ys => .func f xs.toArray ys.toArray
  | .nilFunc => some .nilFunc
  | .iface t v => (v.den β).map fun v => .iface t v
  | .nilIface => some .nilIface
  | .agg l => (SV.denL β l).map fun l => .agg l.toArray
  | .tuple l => (SV.denL β l).map fun l => .tuple l.toArray
  | .val v => some v
  | .tail a n l c => (a.den β).bind fun x => (c.den β).bind fun c => tailV x n.den l.den c
def SV.denL (β : Val) : List SV → Option (List Value)
  | [] => some []
  | v :: l => (v.den β).bind fun v => (SV.denL β l).map fun l => v :: l
end
def undefS : SV := .tuple []

/-- deferred calls: a loop's collection, or a call -/
inductive SD where
  | coll (nm : Nat)
  | call (fn : SFn) (args captured : List SV)

/-- cells: one by one, or as a function of the place -/
inductive Cells where
  | lst (l : List SV)
  | fn (f : Nat → SV) (n : Nat)

/-- what is known of a name: a block of the run's own (whole, or its first cells); a row that is only read; a loop; deferred calls; nothing -/
inductive SO where
  | own (c : Cells) (whole : Bool) (elem : TypeId)
  | row (c : Cells)
  | loop (state : LoopState) (pending : Option Code) (fn : FuncId) (tmps : List SV) (params : Array Tmp) (assign body : Code) (defers : Nat)
  | deferred (ds : Option (List SD))
  | gone

/- Results with conditions. -/
inductive R (α : Type) where
  | ok (a : α)
  | need (p : Prop) (r : R α)
  | fork (b : Bool) (t f : R α)
  | stuck (n : Nat)
  /-- numbers that nobody knows -/
  | any (k : (Nat → Nat) → R α)
def R.bind {α β : Type} (r : R α) (f : α → R β) : R β :=
  R.rec (motive := fun _ => R β) (fun a => f a) (fun p _ ih => .need p ih) (fun b _ _ t f => .fork b t f) (fun n => .stuck n) (fun _ ih => .any ih) r
def R.ofOption {α : Type} (n : Nat) (o : Option α) : R α := Option.rec (motive := fun _ => R α) (.stuck n) (fun a => .ok a) o
def R.opt {α β : Type} (n : Nat) (o : Option α) (f : α → R β) : R β := Option.rec (motive := fun _ => R β) (.stuck n) (fun a => f a) o

def optC {α β : Type} (o : Option α) (d : β) (f : α → β) : β := Option.rec (motive := fun _ => β) d (fun a => f a) o
def boolC {β : Type} (b : Bool) (t f : β) : β := Bool.rec (motive := fun _ => β) f t b
/- The shapes of values, by the recursor. -/
def SV.asInt {β : Type} (v : SV) (d : β) (f : IntKind → SI → β) : β :=
  SV.rec (motive_1 := fun _ => β) (motive_2 := fun _ => Unit) (fun k n => f k n) (fun _ => d) (fun _ => d) (fun _ => d) d (fun _ _ _ => d) d (fun _ => d) d (fun _ _ _ _ _ => d) d (fun _ _ _ => d) d (fun _ _ => d) (fun _ _ => d) (fun _ => d) (fun _ _ _ _ => d) () (fun _ _ _ _ => ()) v
def SV.asBool {β : Type} (v : SV) (d : β) (f : SB → β) : β :=
  SV.rec (motive_1 := fun _ => β) (motive_2 := fun _ => Unit) (fun _ _ => d) (fun b => f b) (fun _ => d) (fun _ => d) d (fun _ _ _ => d) d (fun _ => d) d (fun _ _ _ _ _ => d) d (fun _ _ _ => d) d (fun _ _ => d) (fun _ _ => d) (fun _ => d) (fun _ _ _ _ => d) () (fun _ _ _ _ => ()) v
def SV.asPtr {β : Type} (v : SV) (d : β) (f : SA → β) : β :=
  SV.rec (motive_1 := fun _ => β) (motive_2 := fun _ => Unit) (fun _ _ => d) (fun _ => d) (fun _ => d) (fun a => f a) d (fun _ _ _ => d) d (fun _ => d) d (fun _ _ _ _ _ => d) d (fun _ _ _ => d) d (fun _ _ => d) (fun _ _ => d) (fun _ => d) (fun _ _ _ _ => d) () (fun _ _ _ _ => ()) v
def SV.asSlice {β : Type} (v : SV) (d : β) (f : SA → SN → SC → β) : β :=
  SV.rec (motive_1 := fun _ => β) (motive_2 := fun _ => Unit) (fun _ _ => d) (fun _ => d) (fun _ => d) (fun _ => d) d (fun a l c => f a l c) d (fun _ => d) d (fun _ _ _ _ _ => d) d (fun _ _ _ => d) d (fun _ _ => d) (fun _ _ => d) (fun _ => d) (fun _ _ _ _ => d) () (fun _ _ _ _ => ()) v
def SV.asFunc {β : Type} (v : SV) (d : β) (f : SFn → List SV → List SV → β) : β :=
  SV.rec (motive_1 := fun _ => β) (motive_2 := fun _ => Unit) (fun _ _ => d) (fun _ => d) (fun _ => d) (fun _ => d) d (fun _ _ _ => d) d (fun _ => d) d (fun g xs ys _ _ => f g xs ys) d (fun _ _ _ => d) d (fun _ _ => d) (fun _ _ => d) (fun _ => d) (fun _ _ _ _ => d) () (fun _ _ _ _ => ()) v
def SV.asAgg {β : Type} (v : SV) (d : β) (f : List SV → β) : β :=
  SV.rec (motive_1 := fun _ => β) (motive_2 := fun _ => Unit) (fun _ _ => d) (fun _ => d) (fun _ => d) (fun _ => d) d (fun _ _ _ => d) d (fun _ => d) d (fun _ _ _ _ _ => d) d (fun _ _ _ => d) d (fun l _ => f l) (fun _ _ => d) (fun _ => d) (fun _ _ _ _ => d) () (fun _ _ _ _ => ()) v
def SV.asTuple {β : Type} (v : SV) (d : β) (f : List SV → β) : β :=
  SV.rec (motive_1 := fun _ => β) (motive_2 := fun _ => Unit) (fun _ _ => d) (fun _ => d) (fun _ => d) (fun _ => d) d (fun _ _ _ => d) d (fun _ => d) d (fun _ _ _ _ _ => d) d (fun _ _ _ => d) d (fun _ _ => d) (fun l _ => f l) (fun _ => d) (fun _ _ _ _ => d) () (fun _ _ _ _ => ()) v
/-- a value that fills one cell -/
def scalar (v : SV) : Bool :=
  SV.rec (motive_1 := fun _ => Bool) (motive_2 := fun _ => Unit) (fun _ _ => true) (fun _ => true) (fun _ => true) (fun _ => true) true (fun _ _ _ => true) true (fun _ => true) true (fun _ _ _ _ _ => true) true (fun _ _ _ => true) true (fun _ _ => false) (fun _ _ => false) (fun _ => false) (fun _ _ _ _ => true) () (fun _ _ _ _ => ()) v
def SV.asVal {β : Type} (v : SV) (d : β) (f : Value → β) : β :=
  SV.rec (motive_1 := fun _ => β) (motive_2 := fun _ => Unit) (fun _ _ => d) (fun _ => d) (fun _ => d) (fun _ => d) d (fun _ _ _ => d) d (fun _ => d) d (fun _ _ _ _ _ => d) d (fun _ _ _ => d) d (fun _ _ => d) (fun _ _ => d) (fun v => f v) (fun _ _ _ _ => d) () (fun _ _ _ _ => ()) v
def cellsS (v : SV) : List SV := v.asAgg (v.asVal [v] fun x => mapN SV.val x.cells.toList) fun l => l
/- Constants. -/
def constC : Value → SV
  | .bool b => .bool (.lit b)
  | .int k n => .int k (.lit n)
  | .string s => .str (.lit s)
  | .pointer none => .nilPtr
  | .slice none 0 0 => .nilSlice
  | .map none => .nilMap
  | .nilFunc => .nilFunc
  | .nilIface => .nilIface
  | v => .val v
def constV : Value → SV
  | .agg ⟨l⟩ => .agg (mapN constC l)
  | .tuple ⟨[]⟩ => .tuple []
  | .func f ⟨[]⟩ ⟨[]⟩ => .func (.fn f) [] []
  | v => constC v

/- Numbers' operations. (Each function matches first and takes the rest afterwards: the kernel then instantiates little.) -/
def maxN (k : IntKind) : Nat := IntKind.rec (motive := fun _ => Nat) 127 32767 2147483647 9223372036854775807 255 65535 4294967295 18446744073709551615 k
def idxK (k : IntKind) : Nat := IntKind.rec (motive := fun _ => Nat) 0 1 2 3 4 5 6 7 k
def eqK (a b : IntKind) : Bool := Nat.beq (idxK a) (idxK b)
def intC {β : Type} (n : Int) (f g : Nat → β) : β := Int.rec (motive := fun _ => β) (fun m => f m) (fun m => g m) n
/-- 'wrap', with a short way for a number that fits -/
def wrapF (k : IntKind) (n : Int) : Int := intC n (fun m => Bool.rec (motive := fun _ => Int) (k.wrap n) (.ofNat m) (Nat.ble m (maxN k))) (fun _ => k.wrap n)
def ltI (x y : Int) : Bool := intC x (fun a => intC y (fun b => Nat.blt a b) (fun _ => false)) (fun a => intC y (fun _ => true) (fun b => Nat.blt b a))
def eqI (x y : Int) : Bool := intC x (fun a => intC y (fun b => Nat.beq a b) (fun _ => false)) (fun a => intC y (fun _ => false) (fun b => Nat.beq a b))
def addI (x y : Int) : Int := intC x (fun a => intC y (fun b => .ofNat (Nat.add a b)) (fun _ => x + y)) (fun _ => x + y)
def SI.asLit {β : Type} (x : SI) (d : β) (f : Int → β) : β := SI.rec (motive := fun _ => β) (fun n => f n) (fun _ => d) (fun _ => d) (fun _ => d) (fun _ => d) x
def SN.asLit {β : Type} (x : SN) (d : β) (f : Nat → β) : β := SN.rec (motive := fun _ => β) (fun n => f n) (fun _ => d) (fun _ _ => d) x
def i8 (x : SI) : Option (BitVec 8) := SI.rec (motive := fun _ => Option (BitVec 8)) (fun n => some (BitVec.ofInt 8 n)) (fun _ => none) (fun x => some x) (fun _ => none) (fun _ => none) x
def i32 (x : SI) : Option (BitVec 32) := SI.rec (motive := fun _ => Option (BitVec 32)) (fun n => some (BitVec.ofInt 32 n)) (fun _ => none) (fun _ => none) (fun x => some x) (fun _ => none) x
def i64 (x : SI) : Option (BitVec 64) := SI.rec (motive := fun _ => Option (BitVec 64)) (fun n => some (BitVec.ofInt 64 n)) (fun _ => none) (fun _ => none) (fun _ => none) (fun x => some x) x
def bitsI (op : BinOp) (k : IntKind) (x y : Int) : Int :=
  let a := BitVec.ofInt k.bits x
  let b := BitVec.ofInt k.bits y
  match op with
  | .and => k.wrap (a &&& b).toNat
  | .or => k.wrap (a ||| b).toNat
  | .xor => k.wrap (a ^^^ b).toNat
  | _ => k.wrap (a &&& ~~~b).toNat
def bvAdd (w : Nat) (a b : BitVec w) : Option (BitVec w) := some (a + b)
def bvSub (w : Nat) (a b : BitVec w) : Option (BitVec w) := some (a - b)
def bvMul (w : Nat) (a b : BitVec w) : Option (BitVec w) := some (a * b)
def bvAnd (w : Nat) (a b : BitVec w) : Option (BitVec w) := some (a &&& b)
def bvOr (w : Nat) (a b : BitVec w) : Option (BitVec w) := some (a ||| b)
def bvXor (w : Nat) (a b : BitVec w) : Option (BitVec w) := some (a ^^^ b)
def bvAndNot (w : Nat) (a b : BitVec w) : Option (BitVec w) := some (a &&& ~~~b)
def bvNone (w : Nat) (_a _b : BitVec w) : Option (BitVec w) := none
def bvOp (op : BinOp) : (w : Nat) → BitVec w → BitVec w → Option (BitVec w) :=
  BinOp.rec (motive := fun _ => (w : Nat) → BitVec w → BitVec w → Option (BitVec w)) bvAdd bvSub bvMul bvNone bvNone bvAnd bvOr bvXor bvNone bvNone bvAndNot bvNone bvNone bvNone bvNone bvNone bvNone op
def arAdd (k : IntKind) (x y : Int) : Option Int := some (wrapF k (addI x y))
def arSub (k : IntKind) (x y : Int) : Option Int := some (wrapF k (Int.sub x y))
def arMul (k : IntKind) (x y : Int) : Option Int := some (wrapF k (Int.mul x y))
def arAnd (k : IntKind) (x y : Int) : Option Int := some (bitsI .and k x y)
def arOr (k : IntKind) (x y : Int) : Option Int := some (bitsI .or k x y)
def arXor (k : IntKind) (x y : Int) : Option Int := some (bitsI .xor k x y)
def arAndNot (k : IntKind) (x y : Int) : Option Int := some (bitsI .andNot k x y)
def arNone (_k : IntKind) (_x _y : Int) : Option Int := none
def arithI (op : BinOp) : IntKind → Int → Int → Option Int :=
  BinOp.rec (motive := fun _ => IntKind → Int → Int → Option Int) arAdd arSub arMul arNone arNone arAnd arOr arXor arNone arNone arAndNot arNone arNone arNone arNone arNone arNone op
/-- int's sums: where the numbers are not both known the sum is taken bare, at the price of a condition -/
def plAdd (x y : Int) : Option Int := some (x + y)
def plSub (x y : Int) : Option Int := some (x - y)
def plNone (_x _y : Int) : Option Int := none
def plainI (op : BinOp) : Int → Int → Option Int :=
  BinOp.rec (motive := fun _ => Int → Int → Option Int) plAdd plSub plNone plNone plNone plNone plNone plNone plNone plNone plNone plNone plNone plNone plNone plNone plNone op
def inI64 (n : Int) : Prop := -9223372036854775808 ≤ n ∧ n ≤ 9223372036854775807
/-- '+ - * & | ^ &^' -/
def arLL (a b : Int) (op : BinOp) (k : IntKind) : R SI := R.opt 100 (arithI op k a b) fun n => .ok (.lit n)
def arSym (op : BinOp) (k : IntKind) (x y : SI) : R SI := R.opt 102 (arithI op k x.den y.den) fun n => .ok (.sym n)
def ar8b (a : BitVec 8) (op : BinOp) (x y : SI) : R SI := Option.rec (motive := fun _ => R SI) (arSym op .u8 x y) (fun b => R.opt 101 (bvOp op 8 a b) fun n => .ok (.b8 n)) (i8 y)
def ar8 (op : BinOp) (x y : SI) : R SI := Option.rec (motive := fun _ => R SI) (arSym op .u8 x y) (fun a => ar8b a op x y) (i8 x)
def ar32b (a : BitVec 32) (op : BinOp) (x y : SI) : R SI := Option.rec (motive := fun _ => R SI) (arSym op .u32 x y) (fun b => R.opt 101 (bvOp op 32 a b) fun n => .ok (.b32 n)) (i32 y)
def ar32 (op : BinOp) (x y : SI) : R SI := Option.rec (motive := fun _ => R SI) (arSym op .u32 x y) (fun a => ar32b a op x y) (i32 x)
def ar64b (a : BitVec 64) (op : BinOp) (x y : SI) : R SI := Option.rec (motive := fun _ => R SI) (arSym op .u64 x y) (fun b => R.opt 101 (bvOp op 64 a b) fun n => .ok (.b64 n)) (i64 y)
def ar64 (op : BinOp) (x y : SI) : R SI := Option.rec (motive := fun _ => R SI) (arSym op .u64 x y) (fun a => ar64b a op x y) (i64 x)
def arInt (op : BinOp) (x y : SI) : R SI := Option.rec (motive := fun _ => R SI) (arSym op .i64 x y) (fun n => .need (inI64 n) (.ok (.sym n))) (plainI op x.den y.den)
def arK (k : IntKind) : BinOp → SI → SI → R SI :=
  IntKind.rec (motive := fun _ => BinOp → SI → SI → R SI) (fun op => arSym op .i8) (fun op => arSym op .i16) (fun op => arSym op .i32) arInt ar8 (fun op => arSym op .u16) ar32 ar64 k
def arithS (op : BinOp) (k : IntKind) (x y : SI) : R SI := x.asLit (arK k op x y) fun a => y.asLit (arK k op x y) fun b => arLL a b op k
/-- '/ %' by a known number other than 0 -/
def dvLL (a b : Int) (op : BinOp) (k : IntKind) : R SI :=
  match op with
  | .quo => .ok (.lit (wrapF k (Int.tdiv a b)))
  | _ => .ok (.lit (Int.tmod a b))
def dvSym (op : BinOp) (k : IntKind) (x y : SI) : R SI :=
  match op with
  | .quo => .ok (.sym (k.wrap (x.den.tdiv y.den)))
  | _ => .ok (.sym (x.den.tmod y.den))
def dvL (b : Int) (x : SI) (op : BinOp) (k : IntKind) : R SI := x.asLit (dvSym op k x (.lit b)) fun a => dvLL a b op k
def divS (op : BinOp) (k : IntKind) (x y : SI) : R SI := y.asLit (.need (y.den ≠ 0) (dvSym op k x y)) fun b => boolC (eqI b 0) (.stuck 103) (dvL b x op k)
/-- '<< >>' by a known number -/
def sh8 (a : BitVec 8) (n : Nat) (k : IntKind) (op : BinOp) : R SI :=
  match k with
  | .u8 => match op with
    | .shl => .ok (.b8 (a <<< n))
    | _ => .ok (.b8 (a >>> n))
  | _ => .stuck 105
def sh32 (a : BitVec 32) (n : Nat) (k : IntKind) (op : BinOp) : R SI :=
  match k with
  | .u32 => match op with
    | .shl => .ok (.b32 (a <<< n))
    | _ => .ok (.b32 (a >>> n))
  | _ => .stuck 105
def sh64 (a : BitVec 64) (n : Nat) (k : IntKind) (op : BinOp) : R SI :=
  match k with
  | .u64 => match op with
    | .shl => .ok (.b64 (a <<< n))
    | _ => .ok (.b64 (a >>> n))
  | _ => .stuck 105
def shLit (a : Int) (n : Nat) (k : IntKind) (op : BinOp) : R SI :=
  match op with
  | .shl => .ok (.lit (wrapF k (Int.mul a (Int.ofNat (2 ^ n)))))
  | _ => .ok (.lit (Int.fdiv a (Int.ofNat (2 ^ n))))
def shSym (a : Int) (n : Nat) (k : IntKind) (op : BinOp) : R SI :=
  match op with
  | .shl => .ok (.sym (k.wrap (a * 2 ^ n)))
  | _ => .ok (.sym (a.fdiv (2 ^ n)))
def shX (x : SI) : Nat → IntKind → BinOp → R SI := SI.rec (motive := fun _ => Nat → IntKind → BinOp → R SI) shLit shSym sh8 sh32 sh64 x
def bitsN (k : IntKind) : Nat := IntKind.rec (motive := fun _ => Nat) 8 16 32 64 8 16 32 64 k
def shN (op : BinOp) (k : IntKind) (x : SI) (n : Nat) : R SI := boolC (Nat.ble n (bitsN k)) (shX x n k op) (shX x (bitsN k) k op)
def shSymY (op : BinOp) (k : IntKind) (x y : SI) : R SI :=
  .need (0 ≤ y.den) (match op with
      | .shl => .ok (.sym (k.wrap (x.den * 2 ^ (min y.den.toNat k.bits))))
      | _ => .ok (.sym (x.den.fdiv (2 ^ (min y.den.toNat k.bits)))))
def shiftS (op : BinOp) (k : IntKind) (x y : SI) : R SI := y.asLit (shSymY op k x y) fun b => intC b (fun n => shN op k x n) (fun _ => .stuck 104)
def cmEql (x y : Int) : Option Bool := some (eqI x y)
def cmNeq (x y : Int) : Option Bool := some (!(eqI x y))
def cmLss (x y : Int) : Option Bool := some (ltI x y)
def cmLeq (x y : Int) : Option Bool := some (!(ltI y x))
def cmGtr (x y : Int) : Option Bool := some (ltI y x)
def cmGeq (x y : Int) : Option Bool := some (!(ltI x y))
def cmNone (_x _y : Int) : Option Bool := none
def cmpL (op : BinOp) : Int → Int → Option Bool :=
  BinOp.rec (motive := fun _ => Int → Int → Option Bool) cmNone cmNone cmNone cmNone cmNone cmNone cmNone cmNone cmNone cmNone cmNone cmEql cmNeq cmLss cmLeq cmGtr cmGeq op
def cmpI (op : BinOp) (x y : Int) : Option Bool :=
  match op with
  | .eql => some (x == y)
  | .neq => some (x != y)
  | .lss => some (decide (x < y))
  | .leq => some (decide (x ≤ y))
  | .gtr => some (decide (x > y))
  | .geq => some (decide (x ≥ y))
  | _ => none
def cmLL (a b : Int) (op : BinOp) : R SB := R.opt 106 (cmpL op a b) fun b => .ok (.lit b)
def cmSym (op : BinOp) (x y : SI) : R SB := R.opt 106 (cmpI op x.den y.den) fun b => .ok (.sym b)
def cmpS (op : BinOp) (x y : SI) : R SB := x.asLit (cmSym op x y) fun a => y.asLit (cmSym op x y) fun b => cmLL a b op
/-- a conversion between integer kinds -/
def cv8 (a : BitVec 8) (k : IntKind) : SI :=
  match k with
  | .u8 => .b8 a
  | .u32 => .b32 (a.setWidth 32)
  | .u64 => .b64 (a.setWidth 64)
  | .i64 => .sym (a.toNat : Int)
  | k => .sym (k.wrap (a.toNat : Int))
def cv32 (a : BitVec 32) (k : IntKind) : SI :=
  match k with
  | .u8 => .b8 (a.setWidth 8)
  | .u32 => .b32 a
  | .u64 => .b64 (a.setWidth 64)
  | .i64 => .sym (a.toNat : Int)
  | k => .sym (k.wrap (a.toNat : Int))
def cv64 (a : BitVec 64) (k : IntKind) : SI :=
  match k with
  | .u8 => .b8 (a.setWidth 8)
  | .u32 => .b32 (a.setWidth 32)
  | .u64 => .b64 a
  | k => .sym (k.wrap (a.toNat : Int))
def cvL (n : Int) (k : IntKind) : SI := .lit (wrapF k n)
def cvS (n : Int) (k : IntKind) : SI :=
  match k with
  | .u8 => .b8 (BitVec.ofInt 8 n)
  | .u32 => .b32 (BitVec.ofInt 32 n)
  | .u64 => .b64 (BitVec.ofInt 64 n)
  | k => .sym (k.wrap n)
def convI (k : IntKind) (x : SI) : SI := SI.rec (motive := fun _ => IntKind → SI) cvL cvS cv8 cv32 cv64 x k
def SI.toN (x : SI) : SN := SI.rec (motive := fun _ => SN) (fun n => .lit (intC n (fun m => m) (fun _ => 0))) (fun n => .sym n.toNat) (fun x => .byt 0 x) (fun x => .sym (x.toNat : Int).toNat) (fun x => .sym (x.toNat : Int).toNat) x
def SN.toI (n : SN) : SI := SN.rec (motive := fun _ => SI) (fun n => .lit (Int.ofNat n)) (fun n => .sym (n : Int)) (fun o x => .sym ((o + x.toNat : Nat) : Int)) n
def SN.add (x y : SN) : SN := SN.rec (motive := fun _ => SN) (fun a => SN.rec (motive := fun _ => SN) (fun b => .lit (Nat.add a b)) (fun b => .sym (a + b)) (fun o b => .byt (Nat.add a o) b) y) (fun a => .sym (a + y.den)) (fun o a => SN.rec (motive := fun _ => SN) (fun b => .byt (Nat.add o b) a) (fun b => .sym (o + a.toNat + b)) (fun o' b => .sym (o + a.toNat + (o' + b.toNat))) y) x
def SN.sub (x y : SN) : SN := SN.rec (motive := fun _ => SN) (fun a => SN.rec (motive := fun _ => SN) (fun b => .lit (Nat.sub a b)) (fun b => .sym (a - b)) (fun o b => .sym (a - (o + b.toNat))) y) (fun a => .sym (a - y.den)) (fun o a => .sym (o + a.toNat - y.den)) x
def SN.mul (x : SN) (b : Nat) : SN := SN.rec (motive := fun _ => SN) (fun a => .lit (Nat.mul a b)) (fun a => .sym (a * b)) (fun o a => boolC (Nat.beq b 1) (.byt o a) (.sym ((o + a.toNat) * b))) x
/-- 0 ≤ i < n, known or as a condition -/
def idxAny {α : Type} (i : SI) (n : SN) (k : SN → R α) : R α := .need (0 ≤ i.den ∧ i.den < (n.den : Int)) (k i.toN)
/-- a byte is below 256 -/
def idxByte {α : Type} (x : BitVec 8) (n : SN) (k : SN → R α) : R α := n.asLit (idxAny (.b8 x) n k) fun m => boolC (Nat.ble 256 m) (k (.byt 0 x)) (idxAny (.b8 x) n k)
def idxSym {α : Type} (i : SI) (n : SN) (k : SN → R α) : R α := SI.rec (motive := fun _ => R α) (fun _ => idxAny i n k) (fun _ => idxAny i n k) (fun x => idxByte x n k) (fun _ => idxAny i n k) (fun _ => idxAny i n k) i
def idxLit {α : Type} (a : Nat) (n : SN) (k : SN → R α) : R α := SN.rec (motive := fun _ => R α) (fun n => boolC (Nat.blt a n) (k (.lit a)) (.stuck 107)) (fun n => .need (a < n) (k (.lit a))) (fun o x => .need (a < o + x.toNat) (k (.lit a))) n
def idxS {α : Type} (i : SI) (n : SN) (k : SN → R α) : R α := i.asLit (idxSym i n k) fun a => intC a (fun a => idxLit a n k) (fun _ => .stuck 107)
/-- 0 ≤ i ≤ n -/
def bndSym {α : Type} (i : SI) (n : SN) (k : SN → R α) : R α := .need (0 ≤ i.den ∧ i.den ≤ (n.den : Int)) (k i.toN)
def bndLit {α : Type} (a : Nat) (n : SN) (k : SN → R α) : R α := SN.rec (motive := fun _ => R α) (fun n => boolC (Nat.ble a n) (k (.lit a)) (.stuck 108)) (fun n => .need (a ≤ n) (k (.lit a))) (fun o x => .need (a ≤ o + x.toNat) (k (.lit a))) n
def bndS {α : Type} (i : SI) (n : SN) (k : SN → R α) : R α := i.asLit (bndSym i n k) fun a => intC a (fun a => bndLit a n k) (fun _ => .stuck 108)

end
end Go.Sim
