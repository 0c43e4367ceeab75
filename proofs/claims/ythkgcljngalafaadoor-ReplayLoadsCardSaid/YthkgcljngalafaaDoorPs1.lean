/-
  Texts behind one another: the symbolic simulator and what it is told of the program.
-/
import Derived.AtR
import Derived.Orders
import Derived.KernelRfl
namespace Go.Sim
noncomputable section
noncomputable section
def nth {α:Type} (l:List α):Nat->Option α :=
 List.rec (motive:=fun _=>Nat->Option α) (fun _=>none) (fun a _ ih n=>Nat.rec (motive:=fun _=>Option α) (some a) (fun m _=>ih m) n) l
def setN {α:Type} (l:List α):Nat->α->List α :=
 List.rec (motive:=fun _=>Nat->α->List α) (fun _ _=>[]) (fun a t ih n v=>Nat.rec (motive:=fun _=>List α) (v::t) (fun m _=>a::ih m v) n) l
def app {α:Type} (l r:List α):List α:=List.rec (motive:=fun _=>List α) r (fun a _ ih=>a::ih) l
def qsa {α:Type} (l:List α):Nat->List α :=
 List.rec (motive:=fun _=>Nat->List α) (fun _=>[]) (fun a _ ih n=>Nat.rec (motive:=fun _=>List α) [] (fun m _=>a::ih m) n) l
def qhb {α:Type} (l:List α):Nat->List α :=
 List.rec (motive:=fun _=>Nat->List α) (fun _=>[]) (fun a t ih n=>Nat.rec (motive:=fun _=>List α) (a::t) (fun m _=>ih m) n) l
def mapN {α β:Type} (f:α->β) (l:List α):List β:=List.rec (motive:=fun _=>List β) [] (fun a _ ih=>f a::ih) l
def lenN {α:Type} (l:List α):Nat:=List.rec (motive:=fun _=>Nat) 0 (fun _ _ ih=>Nat.succ ih) l
def repN {α:Type} (a:α) (n:Nat):List α:=Nat.rec (motive:=fun _=>List α) [] (fun _ ih=>a::ih) n
def qra (n:Nat):Nat->List Nat:=Nat.rec (motive:=fun _=>Nat->List Nat) (fun _=>[]) (fun _ ih k=>k::ih (Nat.succ k)) n
def qth {α:Type} (l:List α):Nat->List α->List α :=
 List.rec (motive:=fun _=>Nat->List α->List α) (fun _ _=>[])
  (fun a t ih n v=>Nat.rec (motive:=fun _=>List α) (List.casesOn (motive:=fun _=>List α) v (a::t) (fun x v'=>x::ih 0 v')) (fun m _=>a::ih m v) n) l
inductive SI where
 | lit (n:Int)
 | sym (n:Int)
 | b8 (x:BitVec 8)
 | b32 (x:BitVec 32)
 | b64 (x:BitVec 64)
def SI.den:SI->Int
 | .lit n=>n
 | .sym n=>n
 | .b8 x=>(x.toNat:Int)
 | .b32 x=>(x.toNat:Int)
 | .b64 x=>(x.toNat:Int)
inductive SB where
 | lit (b:Bool)
 | sym (b:Bool)
def SB.den:SB->Bool
 | .lit b=>b
 | .sym b=>b
inductive SN where
 | lit (n:Nat)
 | sym (n:Nat)
 | byt (o:Nat) (x:BitVec 8)
def SN.den:SN->Nat
 | .lit n=>n
 | .sym n=>n
 | .byt o x=>o+x.toNat
inductive SStr where
 | lit (s:ByteArray)
 | sym (s:ByteArray)
 | bytes (l:List SI)
def bytesOf (l:List SI):ByteArray:=⟨(l.map fun i=>UInt8.ofNat i.den.toNat).toArray⟩
def SStr.den:SStr->ByteArray
 | .lit s=>s
 | .sym s=>s
 | .bytes l=>bytesOf l
structure Loc where
 blk:Nat
 off:Nat
 cap:Nat
abbrev Val:=Nat->Option Loc
inductive SC where
 | lit (n:Nat)
 | sym (n:Nat)
 | rest (nm:Nat) (k:Nat)
def SC.den (β:Val):SC->Option Nat
 | .lit n=>some n
 | .sym n=>some n
 | .rest nm k=>(β nm).map fun l=>l.cap - k
structure SA where
 nm:Nat
 off:SN
def SA.den (β:Val) (a:SA):Option Addr:=(β a.nm).map fun l=>{ block:=l.blk,off:=l.off+a.off.den,spot:=none }
inductive SFn where
 | fn (f:Fn)
 | yield (nm:Nat)
def SFn.den (β:Val):SFn->Option Fn
 | .fn f=>some f
 | .yield nm=>(β nm).map fun l=>.yield l.blk
inductive SV where
 | int (k:IntKind) (n:SI)
 | bool (b:SB)
 | str (s:SStr)
 | ptr (a:SA)
 | nilPtr
 | slice (a:SA) (len:SN) (cap:SC)
 | nilSlice
 | map (nm:Nat)
 | nilMap
 | func (fn:SFn) (first captured:List SV)
 | nilFunc
 | iface (t:TypeId) (v:SV)
 | nilIface
 | agg (l:List SV)
 | tuple (l:List SV)
 | val (v:Value)
 | tail (a:SA) (n:SN) (len:SN) (c:SC)
instance:Inhabited SV:=⟨.tuple []⟩
def q3m (x:Addr) (l c:Nat):Option Value:=if l<=c then some (.slice (some x) l c) else none
def qr1 (x:Addr) (n l c:Nat):Option Value:=if l<=c then some (.slice (some (if c=0 then x else x.add n)) l c) else none
mutual
def SV.den (β:Val):SV->Option Value
 | .int k n=>some (.int k n.den)
 | .bool b=>some (.bool b.den)
 | .str s=>some (.string s.den)
 | .ptr a=>(a.den β).map fun x=>.pointer (some x)
 | .nilPtr=>some (.pointer none)
 | .slice a l c=>(a.den β).bind fun x=>(c.den β).bind fun c=>q3m x l.den c
 | .nilSlice=>some (.slice none 0 0)
 | .map nm=>(β nm).map fun l=>.map (some l.blk)
 | .nilMap=>some (.map none)
 | .func f xs ys=>(f.den β).bind fun f=>(SV.denL β xs).bind fun xs=>(SV.denL β ys).map fun ys=>.func f xs.toArray ys.toArray
 | .nilFunc=>some .nilFunc
 | .iface t v=>(v.den β).map fun v=>.iface t v
 | .nilIface=>some .nilIface
 | .agg l=>(SV.denL β l).map fun l=>.agg l.toArray
 | .tuple l=>(SV.denL β l).map fun l=>.tuple l.toArray
 | .val v=>some v
 | .tail a n l c=>(a.den β).bind fun x=>(c.den β).bind fun c=>qr1 x n.den l.den c
def SV.denL (β:Val):List SV->Option (List Value)
 | []=>some []
 | v::l=>(v.den β).bind fun v=>(SV.denL β l).map fun l=>v::l
end
def qua:SV:=.tuple []
inductive SD where
 | coll (nm:Nat)
 | call (fn:SFn) (args captured:List SV)
inductive Cells where
 | lst (l:List SV)
 | fn (f:Nat->SV) (n:Nat)
 | raw (f:Nat->Value) (n:Nat)
inductive SK where
 | i (k:IntKind)
 | b
 | s
 | v
structure MSh where
 agg:Bool
 cells:List SK
def vNum (v:Value):Int:=match v with | .int _ n=>n | _=>0
def vBoo (v:Value):Bool:=match v with | .bool b=>b | _=>false
def vStr (v:Value):ByteArray:=match v with | .string s=>s | _=>.empty
def siK (k:IntKind) (n:Int):SI:=IntKind.rec (motive:=fun _=>SI) (.sym n) (.sym n) (.sym n) (.sym n) (.b8 (BitVec.ofInt 8 n)) (.sym n) (.b32 (BitVec.ofInt 32 n)) (.b64 (BitVec.ofInt 64 n)) k
def seeK (k:SK) (v:Value):SV:=SK.rec (motive:=fun _=>SV) (fun k=>.int k (siK k (vNum v))) (.bool (.sym (vBoo v))) (.str (.sym (vStr v))) (.val v) k
def q6f (v:Value) (j:Nat):Value:=match v with | .agg a=>a.toList.getD j undef | v=>v
def qio (v:Value) (ks:List SK):Nat->List SV:=List.rec (motive:=fun _=>Nat->List SV) (fun _=>[]) (fun k _ ih j=>seeK k (q6f v j)::ih (Nat.succ j)) ks
def headK (ks:List SK):SK:=List.rec (motive:=fun _=>SK) .v (fun k _ _=>k) ks
def MSh.see (s:MSh) (v:Value):SV:=Bool.rec (motive:=fun _=>SV) (seeK (headK s.cells) v) (.agg (qio v s.cells 0)) s.agg
def MSh.fit (s:MSh) (v:Value):Prop:=∀ β,(s.see v).den β=some v
def fitK (k:SK) (v:Value):Prop:=∀ β,(seeK k v).den β=some v
inductive SObj where
 | map (es:List (SV × SV × Nat)) (clock:Nat)
 | iter (m:Option Nat) (since:Nat) (seen:List Nat) (last:Nat)
 | str (s:SStr) (pos:Nat)
 | amap (ks vs:MSh) (es:List MapEntry) (clock:Nat)
inductive SO where
 | own (c:Cells) (whole:Bool) (elem:TypeId)
 | row (c:Cells)
 | loop (state:LoopState) (pending:Option Code) (fn:FuncId) (tmps:List SV) (params:Array Tmp) (assign body:Code) (defers:Nat)
 | deferred (ds:Option (List SD))
 | gone
 | obj (o:SObj)
inductive R (α:Type) where
 | ok (a:α)
 | need (p:Prop) (r:R α)
 | fork (b:Bool) (t f:R α)
 | stuck (n:Nat)
 | any (k:(Nat->Nat)->R α)
def R.bind {α β:Type} (r:R α) (f:α->R β):R β :=
 R.rec (motive:=fun _=>R β) (fun a=>f a) (fun p _ ih=>.need p ih) (fun b _ _ t f=>.fork b t f) (fun n=>.stuck n) (fun _ ih=>.any ih) r
def R.opt {α β:Type} (n:Nat) (o:Option α) (f:α->R β):R β:=Option.rec (motive:=fun _=>R β) (.stuck n) (fun a=>f a) o
def optC {α β:Type} (o:Option α) (d:β) (f:α->β):β:=Option.rec (motive:=fun _=>β) d (fun a=>f a) o
def boolC {β:Type} (b:Bool) (t f:β):β:=Bool.rec (motive:=fun _=>β) f t b
def SV.asInt {β:Type} (v:SV) (d:β) (f:IntKind->SI->β):β :=
 SV.rec (motive_1:=fun _=>β) (motive_2:=fun _=>Unit) (fun k n=>f k n) (fun _=>d) (fun _=>d) (fun _=>d) d (fun _ _ _=>d) d (fun _=>d) d (fun _ _ _ _ _=>d) d (fun _ _ _=>d) d (fun _ _=>d) (fun _ _=>d) (fun _=>d) (fun _ _ _ _=>d) () (fun _ _ _ _=>()) v
def SV.asBool {β:Type} (v:SV) (d:β) (f:SB->β):β :=
 SV.rec (motive_1:=fun _=>β) (motive_2:=fun _=>Unit) (fun _ _=>d) (fun b=>f b) (fun _=>d) (fun _=>d) d (fun _ _ _=>d) d (fun _=>d) d (fun _ _ _ _ _=>d) d (fun _ _ _=>d) d (fun _ _=>d) (fun _ _=>d) (fun _=>d) (fun _ _ _ _=>d) () (fun _ _ _ _=>()) v
def SV.asPtr {β:Type} (v:SV) (d:β) (f:SA->β):β :=
 SV.rec (motive_1:=fun _=>β) (motive_2:=fun _=>Unit) (fun _ _=>d) (fun _=>d) (fun _=>d) (fun a=>f a) d (fun _ _ _=>d) d (fun _=>d) d (fun _ _ _ _ _=>d) d (fun _ _ _=>d) d (fun _ _=>d) (fun _ _=>d) (fun _=>d) (fun _ _ _ _=>d) () (fun _ _ _ _=>()) v
def SV.asSlice {β:Type} (v:SV) (d:β) (f:SA->SN->SC->β):β :=
 SV.rec (motive_1:=fun _=>β) (motive_2:=fun _=>Unit) (fun _ _=>d) (fun _=>d) (fun _=>d) (fun _=>d) d (fun a l c=>f a l c) d (fun _=>d) d (fun _ _ _ _ _=>d) d (fun _ _ _=>d) d (fun _ _=>d) (fun _ _=>d) (fun _=>d) (fun _ _ _ _=>d) () (fun _ _ _ _=>()) v
def SV.asFunc {β:Type} (v:SV) (d:β) (f:SFn->List SV->List SV->β):β :=
 SV.rec (motive_1:=fun _=>β) (motive_2:=fun _=>Unit) (fun _ _=>d) (fun _=>d) (fun _=>d) (fun _=>d) d (fun _ _ _=>d) d (fun _=>d) d (fun g xs ys _ _=>f g xs ys) d (fun _ _ _=>d) d (fun _ _=>d) (fun _ _=>d) (fun _=>d) (fun _ _ _ _=>d) () (fun _ _ _ _=>()) v
def SV.asAgg {β:Type} (v:SV) (d:β) (f:List SV->β):β :=
 SV.rec (motive_1:=fun _=>β) (motive_2:=fun _=>Unit) (fun _ _=>d) (fun _=>d) (fun _=>d) (fun _=>d) d (fun _ _ _=>d) d (fun _=>d) d (fun _ _ _ _ _=>d) d (fun _ _ _=>d) d (fun l _=>f l) (fun _ _=>d) (fun _=>d) (fun _ _ _ _=>d) () (fun _ _ _ _=>()) v
def SV.asTuple {β:Type} (v:SV) (d:β) (f:List SV->β):β :=
 SV.rec (motive_1:=fun _=>β) (motive_2:=fun _=>Unit) (fun _ _=>d) (fun _=>d) (fun _=>d) (fun _=>d) d (fun _ _ _=>d) d (fun _=>d) d (fun _ _ _ _ _=>d) d (fun _ _ _=>d) d (fun _ _=>d) (fun l _=>f l) (fun _=>d) (fun _ _ _ _=>d) () (fun _ _ _ _=>()) v
def qcj (v:SV):Bool :=
 SV.rec (motive_1:=fun _=>Bool) (motive_2:=fun _=>Unit) (fun _ _=>true) (fun _=>true) (fun _=>true) (fun _=>true) true (fun _ _ _=>true) true (fun _=>true) true (fun _ _ _ _ _=>true) true (fun _ _ _=>true) true (fun _ _=>false) (fun _ _=>false) (fun _=>false) (fun _ _ _ _=>true) () (fun _ _ _ _=>()) v
def SV.asVal {β:Type} (v:SV) (d:β) (f:Value->β):β :=
 SV.rec (motive_1:=fun _=>β) (motive_2:=fun _=>Unit) (fun _ _=>d) (fun _=>d) (fun _=>d) (fun _=>d) d (fun _ _ _=>d) d (fun _=>d) d (fun _ _ _ _ _=>d) d (fun _ _ _=>d) d (fun _ _=>d) (fun _ _=>d) (fun v=>f v) (fun _ _ _ _=>d) () (fun _ _ _ _=>()) v
def qug (v:SV):List SV:=v.asAgg (v.asVal [v] fun x=>mapN SV.val x.cells.toList) fun l=>l
def qrk:Value->SV
 | .bool b=>.bool (.lit b)
 | .int k n=>.int k (.lit n)
 | .string s=>.str (.lit s)
 | .pointer none=>.nilPtr
 | .slice none 0 0=>.nilSlice
 | .map none=>.nilMap
 | .nilFunc=>.nilFunc
 | .nilIface=>.nilIface
 | v=>.val v
def q1q:Value->SV
 | .agg ⟨l⟩=>.agg (mapN qrk l)
 | .tuple ⟨[]⟩=>.tuple []
 | .func f ⟨[]⟩ ⟨[]⟩=>.func (.fn f) [] []
 | v=>qrk v
def maxN (k:IntKind):Nat:=IntKind.rec (motive:=fun _=>Nat) 127 32767 2147483647 9223372036854775807 255 65535 4294967295 18446744073709551615 k
def idxK (k:IntKind):Nat:=IntKind.rec (motive:=fun _=>Nat) 0 1 2 3 4 5 6 7 k
def eqK (a b:IntKind):Bool:=Nat.beq (idxK a) (idxK b)
def intC {β:Type} (n:Int) (f g:Nat->β):β:=Int.rec (motive:=fun _=>β) (fun m=>f m) (fun m=>g m) n
def qyc (k:IntKind) (n:Int):Int:=intC n (fun m=>Bool.rec (motive:=fun _=>Int) (k.wrap n) (.ofNat m) (Nat.ble m (maxN k))) (fun _=>k.wrap n)
def ltI (x y:Int):Bool:=intC x (fun a=>intC y (fun b=>Nat.blt a b) (fun _=>false)) (fun a=>intC y (fun _=>true) (fun b=>Nat.blt b a))
def eqI (x y:Int):Bool:=intC x (fun a=>intC y (fun b=>Nat.beq a b) (fun _=>false)) (fun a=>intC y (fun _=>false) (fun b=>Nat.beq a b))
def addI (x y:Int):Int:=intC x (fun a=>intC y (fun b=>.ofNat (Nat.add a b)) (fun _=>x+y)) (fun _=>x+y)
def SI.asLit {β:Type} (x:SI) (d:β) (f:Int->β):β:=SI.rec (motive:=fun _=>β) (fun n=>f n) (fun _=>d) (fun _=>d) (fun _=>d) (fun _=>d) x
def SN.asLit {β:Type} (x:SN) (d:β) (f:Nat->β):β:=SN.rec (motive:=fun _=>β) (fun n=>f n) (fun _=>d) (fun _ _=>d) x
def i8 (x:SI):Option (BitVec 8):=SI.rec (motive:=fun _=>Option (BitVec 8)) (fun n=>some (BitVec.ofInt 8 n)) (fun _=>none) (fun x=>some x) (fun _=>none) (fun _=>none) x
def i32 (x:SI):Option (BitVec 32):=SI.rec (motive:=fun _=>Option (BitVec 32)) (fun n=>some (BitVec.ofInt 32 n)) (fun _=>none) (fun _=>none) (fun x=>some x) (fun _=>none) x
def i64 (x:SI):Option (BitVec 64):=SI.rec (motive:=fun _=>Option (BitVec 64)) (fun n=>some (BitVec.ofInt 64 n)) (fun _=>none) (fun _=>none) (fun _=>none) (fun x=>some x) x
def qrd (op:BinOp) (k:IntKind) (x y:Int):Int :=
 let a:=BitVec.ofInt k.bits x
 let b:=BitVec.ofInt k.bits y
 match op with
 | .and=>k.wrap (a &&& b).toNat
 | .or=>k.wrap (a ||| b).toNat
 | .xor=>k.wrap (a ^^^ b).toNat
 | _=>k.wrap (a &&& ~~~b).toNat
def qxv (w:Nat) (a b:BitVec w):Option (BitVec w):=some (a+b)
def qyv (w:Nat) (a b:BitVec w):Option (BitVec w):=some (a - b)
def qzv (w:Nat) (a b:BitVec w):Option (BitVec w):=some (a * b)
def q2q (w:Nat) (a b:BitVec w):Option (BitVec w):=some (a &&& b)
def bvOr (w:Nat) (a b:BitVec w):Option (BitVec w):=some (a ||| b)
def q3q (w:Nat) (a b:BitVec w):Option (BitVec w):=some (a ^^^ b)
def qil (w:Nat) (a b:BitVec w):Option (BitVec w):=some (a &&& ~~~b)
def q4d (w:Nat) (_a _b:BitVec w):Option (BitVec w):=none
def bvOp (op:BinOp):(w:Nat)->BitVec w->BitVec w->Option (BitVec w) :=
 BinOp.rec (motive:=fun _=>(w:Nat)->BitVec w->BitVec w->Option (BitVec w)) qxv qyv qzv q4d q4d q2q bvOr q3q q4d q4d qil q4d q4d q4d q4d q4d q4d op
def jpb (k:IntKind) (x y:Int):Option Int:=some (qyc k (addI x y))
def jqb (k:IntKind) (x y:Int):Option Int:=some (qyc k (Int.sub x y))
def jrb (k:IntKind) (x y:Int):Option Int:=some (qyc k (Int.mul x y))
def jsb (k:IntKind) (x y:Int):Option Int:=some (qrd .and k x y)
def arOr (k:IntKind) (x y:Int):Option Int:=some (qrd .or k x y)
def jtb (k:IntKind) (x y:Int):Option Int:=some (qrd .xor k x y)
def qow (k:IntKind) (x y:Int):Option Int:=some (qrd .andNot k x y)
def q3e (_k:IntKind) (_x _y:Int):Option Int:=none
def q4q (op:BinOp):IntKind->Int->Int->Option Int :=
 BinOp.rec (motive:=fun _=>IntKind->Int->Int->Option Int) jpb jqb jrb q3e q3e jsb arOr jtb q3e q3e qow q3e q3e q3e q3e q3e q3e op
def jub (x y:Int):Option Int:=some (x+y)
def jvb (x y:Int):Option Int:=some (x - y)
def qfd (_x _y:Int):Option Int:=none
def qpw (op:BinOp):Int->Int->Option Int :=
 BinOp.rec (motive:=fun _=>Int->Int->Option Int) jub jvb qfd qfd qfd qfd qfd qfd qfd qfd qfd qfd qfd qfd qfd qfd qfd op
def qpa (n:Int):Prop := -9223372036854775808<=n/\n<=9223372036854775807
def arLL (a b:Int) (op:BinOp) (k:IntKind):R SI:=R.opt 100 (q4q op k a b) fun n=>.ok (.lit n)
def q7f (op:BinOp) (k:IntKind) (x y:SI):R SI:=R.opt 102 (q4q op k x.den y.den) fun n=>.ok (.sym n)
def ar8b (a:BitVec 8) (op:BinOp) (x y:SI):R SI:=Option.rec (motive:=fun _=>R SI) (q7f op .u8 x y) (fun b=>R.opt 101 (bvOp op 8 a b) fun n=>.ok (.b8 n)) (i8 y)
def ar8 (op:BinOp) (x y:SI):R SI:=Option.rec (motive:=fun _=>R SI) (q7f op .u8 x y) (fun a=>ar8b a op x y) (i8 x)
def qs1 (a:BitVec 32) (op:BinOp) (x y:SI):R SI:=Option.rec (motive:=fun _=>R SI) (q7f op .u32 x y) (fun b=>R.opt 101 (bvOp op 32 a b) fun n=>.ok (.b32 n)) (i32 y)
def ar32 (op:BinOp) (x y:SI):R SI:=Option.rec (motive:=fun _=>R SI) (q7f op .u32 x y) (fun a=>qs1 a op x y) (i32 x)
def qt1 (a:BitVec 64) (op:BinOp) (x y:SI):R SI:=Option.rec (motive:=fun _=>R SI) (q7f op .u64 x y) (fun b=>R.opt 101 (bvOp op 64 a b) fun n=>.ok (.b64 n)) (i64 y)
def ar64 (op:BinOp) (x y:SI):R SI:=Option.rec (motive:=fun _=>R SI) (q7f op .u64 x y) (fun a=>qt1 a op x y) (i64 x)
def qsk (op:BinOp) (x y:SI):R SI:=Option.rec (motive:=fun _=>R SI) (q7f op .i64 x y) (fun n=>.need (qpa n) (.ok (.sym n))) (qpw op x.den y.den)
def q5q (x:SI):Option (BitVec 32):=SI.rec (motive:=fun _=>Option (BitVec 32)) (fun _=>none) (fun _=>none) (fun _=>none) (fun x=>some x) (fun _=>none) x
def qze (_a _b:BitVec 32):Option (BitVec 32):=none
def q0v (op:BinOp):BitVec 32->BitVec 32->Option (BitVec 32) :=
 BinOp.rec (motive:=fun _=>BitVec 32->BitVec 32->Option (BitVec 32)) qze qze qze qze qze (q2q 32) (bvOr 32) (q3q 32) qze qze qze qze qze qze qze qze qze op
def qu1 (op:BinOp) (x y:SI):R SI:=Option.rec (motive:=fun _=>R SI) (qsk op x y) (fun a=>Option.rec (motive:=fun _=>R SI) (qsk op x y) (fun b=>Option.rec (motive:=fun _=>R SI) (qsk op x y) (fun z=>.ok (.b32 z)) (q0v op a b)) (q5q y)) (q5q x)
def arK (k:IntKind):BinOp->SI->SI->R SI :=
 IntKind.rec (motive:=fun _=>BinOp->SI->SI->R SI) (fun op=>q7f op .i8) (fun op=>q7f op .i16) (fun op=>q7f op .i32) qu1 ar8 (fun op=>q7f op .u16) ar32 ar64 k
def qtk (op:BinOp) (k:IntKind) (x y:SI):R SI:=x.asLit (arK k op x y) fun a=>y.asLit (arK k op x y) fun b=>arLL a b op k
def dvLL (a b:Int) (op:BinOp) (k:IntKind):R SI :=
 match op with
 | .quo=>.ok (.lit (qyc k (Int.tdiv a b)))
 | _=>.ok (.lit (Int.tmod a b))
def qjl (op:BinOp) (k:IntKind) (x y:SI):R SI :=
 match op with
 | .quo=>.ok (.sym (k.wrap (x.den.tdiv y.den)))
 | _=>.ok (.sym (x.den.tmod y.den))
def qv1 (op:BinOp) (k:IntKind) (x:SI) (b:Int):R SI :=
 match op with
 | .rem=>.need (0<=x.den) (.ok (.b32 (BitVec.ofInt 32 x.den)))
 | _=>qjl op k x (.lit b)
def rem8 (op:BinOp) (k:IntKind) (x:SI) (b:Int):R SI :=
 match op with
 | .rem=>Option.rec (motive:=fun _=>R SI) (qjl op k x (.lit b)) (fun a=>.ok (.b8 (a.setWidth 8))) (q5q x)
 | _=>qjl op k x (.lit b)
def dvW (b:Int) (x:SI) (op:BinOp) (k:IntKind):R SI:=boolC (eqI b 4294967296) (qv1 op k x b) (boolC (eqI b 256) (rem8 op k x b) (qjl op k x (.lit b)))
def dvL (b:Int) (x:SI) (op:BinOp) (k:IntKind):R SI:=x.asLit (dvW b x op k) fun a=>dvLL a b op k
def divS (op:BinOp) (k:IntKind) (x y:SI):R SI:=y.asLit (.need (y.den≠0) (qjl op k x y)) fun b=>boolC (eqI b 0) (.stuck 103) (dvL b x op k)
def sh8 (a:BitVec 8) (n:Nat) (k:IntKind) (op:BinOp):R SI :=
 match k with
 | .u8=>match op with
   | .shl=>.ok (.b8 (a <<< n))
   | _=>.ok (.b8 (a >>> n))
 | _=>.stuck 105
def sh32 (a:BitVec 32) (n:Nat) (k:IntKind) (op:BinOp):R SI :=
 match k with
 | .u32=>match op with
   | .shl=>.ok (.b32 (a <<< n))
   | _=>.ok (.b32 (a >>> n))
 | .i64=>match op with
   | .shl=>.ok (.sym (IntKind.i64.wrap ((a.toNat:Int) * 2 ^ n)))
   | _=>.ok (.b32 (a >>> n))
 | _=>.stuck 105
def sh64 (a:BitVec 64) (n:Nat) (k:IntKind) (op:BinOp):R SI :=
 match k with
 | .u64=>match op with
   | .shl=>.ok (.b64 (a <<< n))
   | _=>.ok (.b64 (a >>> n))
 | _=>.stuck 105
def shLit (a:Int) (n:Nat) (k:IntKind) (op:BinOp):R SI :=
 match op with
 | .shl=>.ok (.lit (qyc k (Int.mul a (Int.ofNat (2 ^ n)))))
 | _=>.ok (.lit (Int.fdiv a (Int.ofNat (2 ^ n))))
def shSym (a:Int) (n:Nat) (k:IntKind) (op:BinOp):R SI :=
 match op with
 | .shl=>.ok (.sym (k.wrap (a * 2 ^ n)))
 | _=>.ok (.sym (a.fdiv (2 ^ n)))
def shX (x:SI):Nat->IntKind->BinOp->R SI:=SI.rec (motive:=fun _=>Nat->IntKind->BinOp->R SI) shLit shSym sh8 sh32 sh64 x
def qw1 (k:IntKind):Nat:=IntKind.rec (motive:=fun _=>Nat) 8 16 32 64 8 16 32 64 k
def shN (op:BinOp) (k:IntKind) (x:SI) (n:Nat):R SI:=boolC (Nat.ble n (qw1 k)) (shX x n k op) (shX x (qw1 k) k op)
def qy4 (op:BinOp) (k:IntKind) (x y:SI):R SI :=
 .need (0<=y.den) (match op with
   | .shl=>.ok (.sym (k.wrap (x.den * 2 ^ (min y.den.toNat k.bits))))
   | _=>.ok (.sym (x.den.fdiv (2 ^ (min y.den.toNat k.bits)))))
def qz4 (op:BinOp) (k:IntKind) (x y:SI):R SI:=y.asLit (qy4 op k x y) fun b=>intC b (fun n=>shN op k x n) (fun _=>.stuck 104)
def jwb (x y:Int):Option Bool:=some (eqI x y)
def jxb (x y:Int):Option Bool:=some (!(eqI x y))
def jyb (x y:Int):Option Bool:=some (ltI x y)
def jzb (x y:Int):Option Bool:=some (!(ltI y x))
def j0b (x y:Int):Option Bool:=some (ltI y x)
def j1b (x y:Int):Option Bool:=some (!(ltI x y))
def qoe (_x _y:Int):Option Bool:=none
def cmpL (op:BinOp):Int->Int->Option Bool :=
 BinOp.rec (motive:=fun _=>Int->Int->Option Bool) qoe qoe qoe qoe qoe qoe qoe qoe qoe qoe qoe jwb jxb jyb jzb j0b j1b op
def cmpI (op:BinOp) (x y:Int):Option Bool :=
 match op with
 | .eql=>some (x == y)
 | .neq=>some (x != y)
 | .lss=>some (decide (x<y))
 | .leq=>some (decide (x<=y))
 | .gtr=>some (decide (x > y))
 | .geq=>some (decide (x>=y))
 | _=>none
def cmLL (a b:Int) (op:BinOp):R SB:=R.opt 106 (cmpL op a b) fun b=>.ok (.lit b)
def qx1 (op:BinOp) (x y:SI):R SB:=R.opt 106 (cmpI op x.den y.den) fun b=>.ok (.sym b)
def cmpS (op:BinOp) (x y:SI):R SB:=x.asLit (qx1 op x y) fun a=>y.asLit (qx1 op x y) fun b=>cmLL a b op
def cv8 (a:BitVec 8) (k:IntKind):SI :=
 match k with
 | .u8=>.b8 a
 | .u32=>.b32 (a.setWidth 32)
 | .u64=>.b64 (a.setWidth 64)
 | .i64=>.sym (a.toNat:Int)
 | k=>.sym (k.wrap (a.toNat:Int))
def cv32 (a:BitVec 32) (k:IntKind):SI :=
 match k with
 | .u8=>.b8 (a.setWidth 8)
 | .u32=>.b32 a
 | .u64=>.b64 (a.setWidth 64)
 | .i64=>.sym (a.toNat:Int)
 | k=>.sym (k.wrap (a.toNat:Int))
def cv64 (a:BitVec 64) (k:IntKind):SI :=
 match k with
 | .u8=>.b8 (a.setWidth 8)
 | .u32=>.b32 (a.setWidth 32)
 | .u64=>.b64 a
 | k=>.sym (k.wrap (a.toNat:Int))
def cvL (n:Int) (k:IntKind):SI:=.lit (qyc k n)
def cvS (n:Int) (k:IntKind):SI :=
 match k with
 | .u8=>.b8 (BitVec.ofInt 8 n)
 | .u32=>.b32 (BitVec.ofInt 32 n)
 | .u64=>.b64 (BitVec.ofInt 64 n)
 | k=>.sym (k.wrap n)
def j2b (k:IntKind) (x:SI):SI:=SI.rec (motive:=fun _=>IntKind->SI) cvL cvS cv8 cv32 cv64 x k
def SI.toN (x:SI):SN:=SI.rec (motive:=fun _=>SN) (fun n=>.lit (intC n (fun m=>m) (fun _=>0))) (fun n=>.sym n.toNat) (fun x=>.byt 0 x) (fun x=>.sym (x.toNat:Int).toNat) (fun x=>.sym (x.toNat:Int).toNat) x
def SN.toI (n:SN):SI:=SN.rec (motive:=fun _=>SI) (fun n=>.lit (Int.ofNat n)) (fun n=>.sym (n:Int)) (fun o x=>.sym ((o+x.toNat:Nat):Int)) n
def SN.add (x y:SN):SN:=SN.rec (motive:=fun _=>SN) (fun a=>SN.rec (motive:=fun _=>SN) (fun b=>.lit (Nat.add a b)) (fun b=>.sym (a+b)) (fun o b=>.byt (Nat.add a o) b) y) (fun a=>.sym (a+y.den)) (fun o a=>SN.rec (motive:=fun _=>SN) (fun b=>.byt (Nat.add o b) a) (fun b=>.sym (o+a.toNat+b)) (fun o' b=>.sym (o+a.toNat+(o'+b.toNat))) y) x
def SN.sub (x y:SN):SN:=SN.rec (motive:=fun _=>SN) (fun a=>SN.rec (motive:=fun _=>SN) (fun b=>.lit (Nat.sub a b)) (fun b=>.sym (a - b)) (fun o b=>.sym (a - (o+b.toNat))) y) (fun a=>.sym (a - y.den)) (fun o a=>.sym (o+a.toNat - y.den)) x
def SN.mul (x:SN) (b:Nat):SN:=SN.rec (motive:=fun _=>SN) (fun a=>.lit (Nat.mul a b)) (fun a=>.sym (a * b)) (fun o a=>boolC (Nat.beq b 1) (.byt o a) (.sym ((o+a.toNat) * b))) x
def qdj {α:Type} (i:SI) (n:SN) (k:SN->R α):R α:=.need (0<=i.den/\i.den<(n.den:Int)) (k i.toN)
def q6s {α:Type} (x:BitVec 8) (n:SN) (k:SN->R α):R α:=n.asLit (qdj (.b8 x) n k) fun m=>boolC (Nat.ble 256 m) (k (.byt 0 x)) (qdj (.b8 x) n k)
def jhg {α:Type} (i:SI) (n:SN) (k:SN->R α):R α:=SI.rec (motive:=fun _=>R α) (fun _=>qdj i n k) (fun _=>qdj i n k) (fun x=>q6s x n k) (fun _=>qdj i n k) (fun _=>qdj i n k) i
def q04 {α:Type} (a:Nat) (n:SN) (k:SN->R α):R α:=SN.rec (motive:=fun _=>R α) (fun n=>boolC (Nat.blt a n) (k (.lit a)) (.stuck 107)) (fun n=>.need (a<n) (k (.lit a))) (fun o x=>.need (a<o+x.toNat) (k (.lit a))) n
def idxS {α:Type} (i:SI) (n:SN) (k:SN->R α):R α:=i.asLit (jhg i n k) fun a=>intC a (fun a=>q04 a n k) (fun _=>.stuck 107)
def q14 {α:Type} (i:SI) (n:SN) (k:SN->R α):R α:=.need (0<=i.den/\i.den<=(n.den:Int)) (k i.toN)
def q24 {α:Type} (a:Nat) (n:SN) (k:SN->R α):R α:=SN.rec (motive:=fun _=>R α) (fun n=>boolC (Nat.ble a n) (k (.lit a)) (.stuck 108)) (fun n=>.need (a<=n) (k (.lit a))) (fun o x=>.need (a<=o+x.toNat) (k (.lit a))) n
def bndS {α:Type} (i:SI) (n:SN) (k:SN->R α):R α:=i.asLit (q14 i n k) fun a=>intC a (fun a=>q24 a n k) (fun _=>.stuck 108)
end
end
noncomputable section
noncomputable section
variable {α:Type}
def TypeDesc.asArr {β:Type} (d:TypeDesc) (e:β) (f:Nat->TypeId->β):β :=
 TypeDesc.rec (motive:=fun _=>β) e e (fun _=>e) (fun _=>e) (fun _=>e) e e (fun _=>e) (fun _=>e) (fun n t=>f n t) (fun _ _=>e) (fun _ _=>e) (fun _=>e) (fun _ _ _=>e) (fun _=>e) (fun _=>e) (fun _ _=>e) d
def TypeDesc.asSl {β:Type} (d:TypeDesc) (e:β) (f:TypeId->β):β :=
 TypeDesc.rec (motive:=fun _=>β) e e (fun _=>e) (fun _=>e) (fun _=>e) e e (fun _=>e) (fun t=>f t) (fun _ _=>e) (fun _ _=>e) (fun _ _=>e) (fun _=>e) (fun _ _ _=>e) (fun _=>e) (fun _=>e) (fun _ _=>e) d
def TypeDesc.asSt {β:Type} (d:TypeDesc) (e:β) (f:Array Field->β):β :=
 TypeDesc.rec (motive:=fun _=>β) e e (fun _=>e) (fun _=>e) (fun _=>e) e e (fun _=>e) (fun _=>e) (fun _ _=>e) (fun _ _=>e) (fun _ _=>e) (fun l=>f l) (fun _ _ _=>e) (fun _=>e) (fun _=>e) (fun _ _=>e) d
def qbc (d:TypeDesc):Bool :=
 TypeDesc.rec (motive:=fun _=>Bool) false false (fun _=>false) (fun _=>false) (fun _=>false) false false (fun _=>false) (fun _=>false) (fun _ _=>true) (fun _ _=>false) (fun _ _=>false) (fun _=>true) (fun _ _ _=>false) (fun _=>false) (fun _=>false) (fun _ _=>false) d
def repL {β:Type} (z:List β) (n:Nat):List β:=Nat.rec (motive:=fun _=>List β) [] (fun _ ih=>app z ih) n
def skD (d:TypeDesc):SK :=
 match d with
 | .int k=>.i k
 | .bool=>.b
 | .string=>.s
 | _=>.v
def skFs (g:TypeId->Option (List SK)):List Field->Option (List SK)
 | []=>some []
 | f::r=>(g f.type).bind fun ks=>(skFs g r).map fun l=>app ks l
def skT (P:Program):Nat->TypeId->Option (List SK)
 | 0,_=>none
 | d+1,t=>(P.underlying t).bind fun
   | .array n e=>(skT P d e).map fun ks=>repL ks n
   | .struct fs=>skFs (fun e=>skT P d e) fs.toList
   | d=>some [skD d]
def j3b (l:List SV):List SK->List SV:=List.rec (motive:=fun _=>List SK->List SV) (fun _=>[]) (fun v r ih ks=>List.rec (motive:=fun _=>List SV) (v::r) (fun k ks _=>v.asVal v (fun x=>seeK k x)::ih ks) ks) l
def qjo (l:List SV):List SK->Prop:=List.rec (motive:=fun _=>List SK->Prop) (fun _=>True) (fun v _ ih ks=>List.rec (motive:=fun _=>Prop) True (fun k ks _=>v.asVal True (fun x=>fitK k x)/\ih ks) ks) l
def qy1 (P:Program) (t:TypeId) (l:List SV) (f:List SV->R α):R α:=optC (skT P 8 t) (f l) fun ks=>.need (qjo l ks) (f (j3b l ks))
def qz1 (k:SK) (x:Value) (f:SV->R α):R α:=SK.rec (motive:=fun _=>R α) (fun k=>.need (fitK (.i k) x) (f (seeK (.i k) x))) (.need (fitK .b x) (f (seeK .b x))) (.need (fitK .s x) (f (seeK .s x))) (f (.val x)) k
def q01 (P:Program) (t:TypeId) (v:SV) (f:SV->R α):R α:=v.asVal (f v) fun x=>optC (P.underlying t) (f v) fun d=>qz1 (skD d) x f
def rawC (c:Cells):Bool:=Cells.rec (motive:=fun _=>Bool) (fun _=>false) (fun _ _=>false) (fun _ _=>true) c
def rawO (o:Option SO):Bool:=optC o false fun o=>SO.rec (motive:=fun _=>Bool) (fun c _ _=>rawC c) (fun c=>rawC c) (fun _ _ _ _ _ _ _ _=>false) (fun _=>false) false (fun _=>false) o
def valC (v:SV):Option Value :=
 SV.rec (motive_1:=fun _=>Option Value) (motive_2:=fun _=>Unit) (fun k n=>some (.int k n.den)) (fun b=>some (.bool b.den)) (fun s=>some (.string s.den)) (fun _=>none) (some (.pointer none)) (fun _ _ _=>none) (some (.slice none 0 0)) (fun _=>none) (some (.map none)) (fun _ _ _ _ _=>none) (some .nilFunc) (fun _ _ _=>none) (some .nilIface) (fun _ _=>none) (fun _ _=>none) (fun v=>some v) (fun _ _ _ _=>none) () (fun _ _ _ _=>()) v
def qfc (l:List SV):Option (List Value):=List.rec (motive:=fun _=>Option (List Value)) (some []) (fun v _ ih=>optC (valC v) none fun x=>optC ih none fun xs=>some (x::xs)) l
def atV (l:List Value) (i:Nat):Value:=(l[i]?).getD undef
def qmc (V:Nat->Value) (o n:Nat) (Y:Nat->Value):Nat->Value:=fun j=>if o<=j/\j<o+n then Y (j - o) else V j
def catV (X:Nat->Value) (l:Nat) (Y:Nat->Value):Nat->Value:=fun j=>if j<l then X j else Y (j - l)
def rdLst (l:List SV) (i:Nat) (k:Nat) (f:List SV->R α):R α:=boolC (Nat.ble (Nat.add i k) (lenN l)) (f (qsa (qhb l i) k)) (.stuck 200)
def rdFn (g:Nat->SV) (n:Nat) (i:SN) (k:Nat) (f:List SV->R α):R α:=.need (i.den+k<=n) (f (mapN (fun j=>g (i.den+j)) (qra k 0)))
def rdRaw (V:Nat->Value) (n:Nat) (i:SN) (k:Nat) (f:List SV->R α):R α:=.need (i.den+k<=n) (f (mapN (fun j=>.val (V (i.den+j))) (qra k 0)))
def qko (c:Cells) (i:SN) (k:Nat) (f:List SV->R α):R α :=
 Cells.rec (motive:=fun _=>R α) (fun l=>i.asLit (.stuck 201) fun i=>rdLst l i k f) (fun g n=>rdFn g n i k f) (fun V n=>rdRaw V n i k f) c
def rdFn1 (g:Nat->SV) (n:Nat) (i:SN) (f:SV->R α):R α:=SN.rec (motive:=fun _=>R α) (fun i=>.need (i<n) (f (g i))) (fun i=>.need (i<n) (f (g i))) (fun o x=>.need (o+x.toNat<n) (f (g (o+x.toNat)))) i
def lit8 (n:Int):Option (BitVec 8):=intC n (fun m=>boolC (Nat.blt m 256) (some (BitVec.ofNat 8 m)) none) fun _=>none
def si8 (n:SI):Option (BitVec 8):=SI.rec (motive:=fun _=>Option (BitVec 8)) lit8 (fun _=>none) (fun x=>some x) (fun _=>none) (fun _=>none) n
def unb1 (v:SV):Option (BitVec 8):=v.asInt none fun k n=>boolC (eqK k .u8) (si8 n) none
def unb (l:List SV):Option (List (BitVec 8)):=List.rec (motive:=fun _=>Option (List (BitVec 8))) (some []) (fun v _ ih=>optC (unb1 v) none fun x=>optC ih none fun xs=>some (x::xs)) l
def q4a (l:List (BitVec 8)) (i:Nat):BitVec 8:=(l[i]?).getD 0#8
def qna (X:Nat->BitVec 8):Nat->SV:=fun i=>.int .u8 (.b8 (X i))
def byteOf (v:SV):BitVec 8:=SV.asInt v 0#8 fun _ n=>SI.rec (motive:=fun _=>BitVec 8) (fun n=>BitVec.ofInt 8 n) (fun _=>0#8) (fun x=>x) (fun _=>0#8) (fun _=>0#8) n
def IsB (g:Nat->SV):Prop:=∀ i,∃ x,g i=.int .u8 (.b8 x)
def noB (l:List SV):Nat->List Nat:=List.rec (motive:=fun _=>Nat->List Nat) (fun _=>[]) (fun v _ ih i=>optC (unb1 v) (i::ih (Nat.succ i)) fun _=>ih (Nat.succ i)) l
def qxf (o n:Nat) (J:List Nat):Prop:=List.rec (motive:=fun _=>Prop) True (fun j _ ih=>(j<o\/o+n<=j)/\ih) J
def qxj (l:List SV) (i:Nat):BitVec 8:=optC (nth l i) 0#8 fun v=>optC (unb1 v) 0#8 fun x=>x
def putX (o n:Nat) (Y:Nat->BitVec 8) (l:List SV):Nat->List SV:=List.rec (motive:=fun _=>Nat->List SV) (fun _=>[]) (fun v _ ih i=>optC (unb1 v) v (fun x=>.int .u8 (.b8 (if o<=i/\i<o+n then Y (i - o) else x)))::ih (Nat.succ i)) l
def qni (c:Cells) (off n:Nat) (f:(Nat->BitVec 8)->R α):R α :=
 Cells.rec (motive:=fun _=>R α) (fun l=>optC (unb l) (.need (off+n<=lenN l/\qxf off n (noB l 0)) (f fun i=>qxj l (off+i))) fun xs=>.need (off+n<=lenN xs) (f fun i=>q4a xs (off+i))) (fun g m=>.need (off+n<=m/\IsB g) (f fun i=>byteOf (g (off+i)))) (fun V m=>.need (off+n<=m/\∀ i,i<n->fitK (.i .u8) (V (off+i))) (f fun i=>BitVec.ofInt 8 (vNum (V (off+i))))) c
def catB (X:Nat->BitVec 8) (l:Nat) (Y:Nat->BitVec 8):Nat->BitVec 8:=fun j=>if j<l then X j else Y (j - l)
def rdSym (l:List SV) (i:Nat) (f:SV->R α):R α:=optC (unb l) (.stuck 203) fun xs=>.need (i<lenN xs) (f (.int .u8 (.b8 (q4a xs i))))
def rdByt (l:List SV) (o:Nat) (x:BitVec 8) (f:SV->R α):R α:=optC (unb l) (.stuck 203) fun xs=>boolC (Nat.ble (o+256) (lenN xs)) (f (.int .u8 (.b8 (q4a xs (o+x.toNat))))) (.need (o+x.toNat<lenN xs) (f (.int .u8 (.b8 (q4a xs (o+x.toNat))))))
def q6q (c:Cells) (i:SN) (f:SV->R α):R α :=
 Cells.rec (motive:=fun _=>R α) (fun l=>SN.rec (motive:=fun _=>R α) (fun i=>R.opt 202 (nth l i) f) (fun i=>rdSym l i f) (fun o x=>rdByt l o x f) i) (fun g n=>rdFn1 g n i f) (fun V n=>.need (i.den<n) (f (.val (V i.den)))) c
def wrLst (l:List SV) (i:Nat) (v:List SV) (f:Cells->R α):R α:=boolC (Nat.ble (Nat.add i (lenN v)) (lenN l)) (f (.lst (qth l i v))) (.stuck 204)
def wrFn (g:Nat->SV) (n:Nat) (i:SN) (v:List SV) (f:Cells->R α):R α :=
 match v with
 | [x]=>.need (i.den<n) (f (.fn (fun j=>if j=i.den then x else g j) n))
 | v=>.need (i.den+lenN v<=n) (f (.fn (fun j=>if i.den<=j then (nth v (j - i.den)).getD (g j) else g j) n))
def putB (o n:Nat) (Y:Nat->BitVec 8) (xs:List (BitVec 8)):Nat->List (BitVec 8):=List.rec (motive:=fun _=>Nat->List (BitVec 8)) (fun _=>[]) (fun x _ ih k=>(if o<=k/\k<o+n then Y (k - o) else x)::ih (Nat.succ k)) xs
def putC (c:Cells) (o n:Nat) (Y:Nat->BitVec 8) (f:Cells->R α):R α :=
 Cells.rec (motive:=fun _=>R α) (fun l=>optC (unb l) (.need (o+n<=lenN l/\qxf o n (noB l 0)) (f (.lst (putX o n Y l 0)))) fun xs=>.need (o+n<=lenN xs) (f (.lst (mapN (fun x=>.int .u8 (.b8 x)) (putB o n Y xs 0)))))
  (fun g m=>.need (o+n<=m/\IsB g) (f (.fn (qna (fun p=>if o<=p/\p<o+n then Y (p - o) else byteOf (g p))) m)))
  (fun V m=>.need (o+n<=m) (f (.raw (qmc V o n fun p=>.int .u8 ((Y p).toNat:Int)) m))) c
def jig (l:List SV) (i:Nat) (x:SV) (f:Cells->R α):R α:=optC (unb1 x) (.stuck 205) fun b=>putC (.lst l) i 1 (fun _=>b) f
def wrSym (l:List SV) (i:Nat) (v:List SV) (f:Cells->R α):R α:=List.rec (motive:=fun _=>R α) (.stuck 205) (fun x r _=>List.rec (motive:=fun _=>R α) (jig l i x f) (fun _ _ _=>.stuck 205) r) v
def q7q (z:SV):Nat->SV:=optC (unb1 z) (fun _=>z) fun x=>qna fun _=>x
def wrRaw (V:Nat->Value) (n:Nat) (i:SN) (v:List SV) (f:Cells->R α):R α:=optC (qfc v) (.stuck 900) fun xs=>.need (i.den+lenN xs<=n) (f (.raw (qmc V i.den (lenN xs) (atV xs)) n))
def qlo (c:Cells) (i:SN) (v:List SV) (f:Cells->R α):R α :=
 Cells.rec (motive:=fun _=>R α) (fun l=>i.asLit (wrSym l i.den v f) fun i=>wrLst l i v f) (fun g n=>wrFn g n i v f) (fun V n=>wrRaw V n i v f) c
def qmo (c:Cells) (off n:Nat) (f:(Nat->Value)->R α):R α :=
 Cells.rec (motive:=fun _=>R α) (fun l=>optC (qfc l) (.stuck 901) fun xs=>.need (off+n<=lenN xs) (f fun i=>atV xs (off+i))) (fun g m=>.need (off+n<=m/\∀ i,i<n->∃ x,valC (g (off+i))=some x) (f fun i=>optC (valC (g (off+i))) undef fun x=>x)) (fun V m=>.need (off+n<=m) (f fun i=>V (off+i))) c
def putR (c:Cells) (o n:Nat) (Y:Nat->Value) (f:Cells->R α):R α :=
 Cells.rec (motive:=fun _=>R α) (fun l=>optC (qfc l) (.stuck 903) fun xs=>.need (o+n<=lenN xs) (f (.raw (qmc (atV xs) o n Y) (lenN xs)))) (fun g m=>.need (o+n<=m/\∀ i,i<m->∃ x,valC (g i)=some x) (f (.raw (qmc (fun i=>optC (valC (g i)) undef fun x=>x) o n Y) m))) (fun V m=>.need (o+n<=m) (f (.raw (qmc V o n Y) m))) c
inductive OpRes where
 | val (v:SV) (sets:List (Nat × SO)) (news:List SO)
 | enter (f:FuncId) (args:List SV)
 | round (nm:Nat) (args:List SV)
 | defer (d:SD)
 | panic (v:SV)
 | touch (v:SV) (nm:Nat)
def vR (v:SV):R OpRes:=.ok (.val v [] [])
def entry (H:List SO) (a:SA) (f:SO->R α):R α:=R.opt 206 (nth H a.nm) f
def rdNO (o:SO) (i:SN) (k:Nat) (f:List SV->R α):R α :=
 SO.rec (motive:=fun _=>R α) (fun c _ _=>qko c i k f) (fun c=>qko c i k f) (fun _ _ _ _ _ _ _ _=>.stuck 207) (fun _=>.stuck 207) (.stuck 207) (fun _=>.stuck 207) o
def qno (H:List SO) (a:SA) (k:Nat) (f:List SV->R α):R α:=entry H a fun o=>rdNO o a.off k f
def rd1O (o:SO) (i:SN) (f:SV->R α):R α :=
 SO.rec (motive:=fun _=>R α) (fun c _ _=>q6q c i f) (fun c=>q6q c i f) (fun _ _ _ _ _ _ _ _=>.stuck 208) (fun _=>.stuck 208) (.stuck 208) (fun _=>.stuck 208) o
def q11 (H:List SO) (a:SA) (f:SV->R α):R α:=entry H a fun o=>rd1O o a.off f
def loadB (P:Program) (H:List SO) (t:TypeId) (a:SA) (f:SV->R α) (b:Bool):R α :=
 boolC (rawO (nth H a.nm))
  (boolC b (R.opt 210 (P.info? t) fun i=>qno H a i.size fun l=>qy1 P t l fun l=>f (.agg l)) (q11 H a fun v=>q01 P t v f))
  (boolC b (R.opt 210 (P.info? t) fun i=>qno H a i.size fun l=>f (.agg l)) (q11 H a f))
def q21 (P:Program) (H:List SO) (t:TypeId) (a:SA) (f:SV->R α):R α :=
 R.opt 209 (P.underlying t) fun d=>loadB P H t a f (qbc d)
def allN (f:α->Bool) (l:List α):Bool:=List.rec (motive:=fun _=>Bool) true (fun a _ ih=>boolC (f a) ih false) l
def wrO (o:SO) (a:SA) (l:List SV):R OpRes :=
 SO.rec (motive:=fun _=>R OpRes) (fun c w e=>List.rec (motive:=fun _=>R OpRes) (.ok (.touch qua a.nm)) (fun _ _ _=>qlo c a.off l fun c=>.ok (.val qua [(a.nm,.own c w e)] [])) l) (fun _=>.stuck 212) (fun _ _ _ _ _ _ _ _=>.stuck 212) (fun _=>.stuck 212) (.stuck 212) (fun _=>.stuck 212) o
def jjg (H:List SO) (a:SA) (l:List SV) (n:Nat):R OpRes :=
 boolC (Nat.beq (lenN l) n) (boolC (allN qcj l) (entry H a fun o=>wrO o a l) (.stuck 213)) (.stuck 214)
def jkg (P:Program) (H:List SO) (t:TypeId) (a:SA) (v:SV):R OpRes :=
 R.opt 211 (P.info? t) fun i=>jjg H a (qug v) i.size
def qoi (P:Program) (t:TypeId):Option (List SV):=((P.info? t).bind (·.zero)).map fun v=>mapN qrk v.cells.toList
def qkl (place:Nat->Option (Nat × Nat)) (cells:List SV):List (Nat × SV)->Option (List SV)
 | []=>some cells
 | (i,v)::rest =>
   match place i with
   | none=>none
   | some (off,size)=>if lenN (qug v)≠size\/off+lenN (qug v) > lenN cells then none else qkl place (qth cells off (qug v)) rest
def q1v (P:Program) (t:TypeId) (l:List SV) (off:Nat) (f:SV->R α):R α :=
 R.opt 215 (P.underlying t) fun d =>
  if qbc d then R.opt 216 (P.info? t) fun i=>f (.agg (qsa (qhb l off) i.size))
  else R.opt 217 (nth l off) f
def quk (P:Program):List Field->Option (List (Nat × Nat))
 | []=>some []
 | f::r=>(P.info? f.type).bind fun i=>(quk P r).map fun l=>(f.offset,i.size)::l
def q34 (ev:Operand->SV) (ps:Array (Nat × Operand)):List (Nat × SV):=mapN (fun p=>(p.1,ev p.2)) ps.toList
def jlg (P:Program) (t:TypeId) (parts:List (Nat × SV)):R OpRes :=
 R.opt 218 (P.underlying t) fun
  | .struct fields =>
    R.opt 219 (qoi P t) fun zero=>R.opt 220 (quk P fields.toList) fun places =>
     R.opt 221 (qkl (nth places) zero parts) fun cells=>vR (.agg cells)
  | .array _ elem =>
    R.opt 219 (qoi P t) fun zero=>R.opt 220 (P.info? elem) fun i =>
     R.opt 221 (qkl (fun j=>some (j * i.size,i.size)) zero parts) fun cells=>vR (.agg cells)
  | _=>.stuck 222
def q2v (z:List SV) (n:Nat):List SV:=Nat.rec (motive:=fun _=>List SV) [] (fun _ ih=>app z ih) n
def qaz (P:Program) (base:Nat) (t:TypeId) (len:Nat) (parts:List (Nat × SV)):R OpRes :=
 R.opt 223 (P.underlying t) fun
  | .slice elem=>R.opt 224 (P.info? elem) fun i=>R.opt 225 (qoi P elem) fun zero =>
    if len * i.size > 2 ^ 24 then .stuck 226 else
    if lenN zero≠i.size then .stuck 227 else
    R.opt 228 (qkl (fun j=>some (j * i.size,i.size)) (q2v zero len) parts) fun cells =>
     .ok (.val (.slice ⟨base,.lit 0⟩ (.lit len) (.lit len)) [] [.own (.lst cells) true elem])
  | _=>.stuck 229
def q31 (P:Program) (base:Nat) (t:TypeId) (len cap:SV):R OpRes :=
 R.opt 230 (P.underlying t) fun
  | .slice elem=>R.opt 231 (P.info? elem) fun i=>R.opt 232 (qoi P elem) fun zero =>
    match len,cap with
    | .int .i64 (.lit l),.int .i64 (.lit c) =>
      if 0<=l/\l<=c/\c<1048577/\i.bytes<65537 then
       if lenN zero≠i.size then .stuck 233 else
       .ok (.val (.slice ⟨base,.lit 0⟩ (.lit l.toNat) (.lit c.toNat)) [] [.own (.lst (q2v zero c.toNat)) true elem])
      else .stuck 234
    | .int .i64 l,.int .i64 c =>
      match zero with
      | [z]=>.need (0<=l.den/\l.den<=c.den/\c.den * i.bytes<=2 ^ 48/\c.den<=9223372036854775807/\i.size=1)
        (.ok (.val (.slice ⟨base,.lit 0⟩ l.toN (.sym c.den.toNat)) [] [.own (.fn (q7q z) c.den.toNat) true elem]))
      | zs=>R.opt 235 (qfc zs) fun xs=>.need (0<=l.den/\l.den<=c.den/\c.den * i.bytes<=2 ^ 48/\c.den<=9223372036854775807/\i.size=lenN xs/\0<i.size)
        (.ok (.val (.slice ⟨base,.lit 0⟩ l.toN (.sym c.den.toNat)) [] [.own (.raw (fun j=>atV xs (j % lenN xs)) (c.den.toNat * lenN xs)) true elem]))
    | _,_=>.stuck 236
  | _=>.stuck 237
def ptrS (v:SV) (f:SA->R α):R α:=v.asPtr (.stuck 238) f
def SA.plus (a:SA) (n:SN):SA:=⟨a.nm,a.off.add n⟩
def q41 (P:Program) (s:TypeId) (x:SV) (field:Nat):R OpRes :=
 R.opt 239 (P.underlying s) fun d=>TypeDesc.asSt d (.stuck 243) fun fields =>
  R.opt 240 (nth fields.toList field) fun f=>R.opt 241 (P.info? f.type) fun i =>
   boolC (Nat.beq i.size 0) (.stuck 242) (ptrS x fun a=>vR (.ptr (a.plus (.lit f.offset))))
def j4b (P:Program) (x:SV) (i:SI) (n:Nat) (elem:TypeId):R OpRes:=ptrS x fun a=>R.opt 245 (P.info? elem) fun e=>idxS i (.lit n) fun j=>vR (.ptr (a.plus (j.mul e.size)))
def jmg (P:Program) (a:SA) (n len:SN) (i:SI) (elem:TypeId):R OpRes:=R.opt 246 (P.info? elem) fun e=>idxS i len fun j=>vR (.ptr ((a.plus n).plus (j.mul e.size)))
def j5b (P:Program) (x:SV) (i:SI) (elem:TypeId):R OpRes:=x.asSlice (.stuck 247) fun a len _=>R.opt 246 (P.info? elem) fun e=>idxS i len fun j=>vR (.ptr (a.plus (j.mul e.size)))
def ixSl (P:Program) (x:SV) (i:SI) (elem:TypeId):R OpRes :=
 match x with
 | .tail a n len _=>jmg P a n len i elem
 | x=>j5b P x i elem
def q8q (P:Program) (t:TypeId) (x index:SV):R OpRes :=
 R.opt 244 (P.underlying t) fun d=>index.asInt (.stuck 248) fun _ i=>TypeDesc.asArr d (TypeDesc.asSl d (.stuck 247) (ixSl P x i)) (j4b P x i)
def q44 (P:Program) (t:TypeId) (x index:SV):R OpRes :=
 R.opt 249 (P.underlying t) fun d =>
  match index with
  | .int _ i =>
    match d,x with
    | .array n elem,.agg l=>R.opt 250 (P.info? elem) fun e=>idxS i (.lit n) fun
      | .lit j=>q1v P elem l (j * e.size) fun v=>vR v
      | _=>.stuck 251
    | .string,.str s =>
      match s,i with
      | .lit s,.lit i=>if 0<=i then R.opt 252 (nth s.data.toList i.toNat) fun b=>vR (.int .u8 (.lit (b.toNat:Int))) else .stuck 253
      | .bytes l,.lit i=>if 0<=i then R.opt 252 (nth l i.toNat) fun
        | .b8 b=>vR (.int .u8 (.b8 b))
        | b=>.need (0<=b.den/\b.den<256) (vR (.int .u8 b))
       else .stuck 253
      | s,i=>.need (0<=i.den/\i.den<(s.den.size:Int)) (vR (.int .u8 (.b8 (s.den.data.getD i.den.toNat 0).toBitVec)))
    | _,_=>.stuck 254
  | _=>.stuck 255
def qnc (v:Option SV) (y:SN) (d:SN) (f:SN->R α):R α :=
 match v with
 | none=>f d
 | some (.int _ i)=>bndS i y f
 | some _=>.stuck 256
def q3v:SC->Option SN
 | .lit n=>some (.lit n)
 | .sym n=>some (.sym n)
 | .rest _ _=>none
def SN.toC:SN->SC
 | .lit n=>.lit n
 | .sym n=>.sym n
 | .byt o x=>.sym (o+x.toNat)
def SC.less:SC->SN->Option SC
 | .lit c,.lit n=>some (.lit (c - n))
 | .lit c,.sym n=>some (.sym (c - n))
 | .lit c,.byt o x=>some (.sym (c - (o+x.toNat)))
 | .sym c,n=>some (.sym (c - n.den))
 | .rest nm k,.lit n=>some (.rest nm (k+n))
 | .rest nm k,.sym n=>some (.rest nm (k+n))
 | .rest _ _,.byt _ _=>none
def mxOk (hi mx:Option SV):Bool:=optC mx true fun _=>optC hi false fun _=>true
def slAt (a:SA) (n h:SN) (c:SC) (same:Bool):R OpRes:=.fork same (vR (.slice a h c)) (vR (.slice (a.plus n) h c))
def j6b (n:Nat) (a:SA) (e:TypeInfo) (lo hi mx:Option SV):R OpRes :=
 qnc mx (.lit n) (.lit n) fun m=>qnc hi m (.lit n) fun h=>qnc lo h (.lit 0) fun l =>
  match m,l with
  | .lit m',.lit l'=>vR (.slice (if m'=l' then a else a.plus (.lit (l' * e.size))) (h.sub l) (.lit (m' - l')))
  | m,.lit 0=>vR (.slice a h m.toC)
  | m,l=>slAt a (l.mul e.size) (h.sub l) (.sym (m.den - l.den)) (decide (m.den=l.den))
def sl3c (a:SA) (c:SN) (e:TypeInfo) (lo hi mx:Option SV):R OpRes :=
 qnc mx c c fun m=>qnc hi m m fun h=>qnc lo h (.lit 0) fun l =>
  match m,l with
  | .lit m',.lit l'=>vR (.slice (if m'=l' then a else a.plus (.lit (l' * e.size))) (h.sub l) (.lit (m' - l')))
  | m,.lit 0=>vR (.slice a h m.toC)
  | m,l=>slAt a (l.mul e.size) (h.sub l) (.sym (m.den - l.den)) (decide (m.den=l.den))
def sl3 (a:SA) (len:SN) (cap:SC) (e:TypeInfo) (lo hi mx:Option SV):R OpRes:=optC (q3v cap) (sl3c a len e lo hi mx) fun c=>sl3c a c e lo hi mx
def qqw (a:SA) (len:SN) (size:Nat) (h l:SN) (c':SC):R OpRes :=
 l.asLit (vR (.tail a (l.mul size) (h.sub l) c')) fun x=>len.asLit (vR (.tail a (l.mul size) (h.sub l) c')) fun y =>
  boolC (Nat.blt x y) (vR (.slice (a.plus (l.mul size)) (h.sub l) c')) (vR (.tail a (l.mul size) (h.sub l) c'))
def slEnd (a:SA) (len:SN) (size:Nat) (h l:SN) (c':SC):R OpRes:=(h.sub l).asLit (qqw a len size h l c') fun d=>boolC (Nat.blt 0 d) (vR (.slice (a.plus (l.mul size)) (h.sub l) c')) (qqw a len size h l c')
def sl2 (a:SA) (len:SN) (cap:SC) (e:TypeInfo) (lo hi:Option SV):R OpRes :=
 qnc hi len len fun h=>qnc lo h (.lit 0) fun l =>
  match l with
  | .lit 0=>vR (.slice a h cap)
  | l=>match cap,l with
    | .lit c,.lit l'=>vR (.slice (if c=l' then a else a.plus (.lit (l' * e.size))) (h.sub l) (.lit (c - l')))
    | cap,l=>R.opt 263 (cap.less l) fun c'=>slEnd a len e.size h l c'
def q51 (s:SStr) (lo hi:Option SV):R OpRes :=
 match s with
 | .lit s=>qnc hi (.lit s.size) (.lit s.size) fun h=>qnc lo h (.lit 0) fun l =>
   match l,h with
   | .lit l,.lit h=>vR (.str (.lit (s.extract l h)))
   | l,h=>vR (.str (.sym (s.extract l.den h.den)))
 | .bytes b=>qnc hi (.lit (lenN b)) (.lit (lenN b)) fun h=>qnc lo h (.lit 0) fun l =>
   match l,h with
   | .lit l,.lit h=>vR (.str (.bytes (qsa (qhb b l) (h - l))))
   | _,_=>.stuck 265
 | .sym s=>qnc hi (.sym s.size) (.sym s.size) fun h=>qnc lo h (.lit 0) fun l=>vR (.str (.sym (s.extract l.den h.den)))
def jng (P:Program) (t:TypeId) (x:SV) (lo hi mx:Option SV):R OpRes :=
 R.opt 257 (P.underlying t) fun d=>boolC (mxOk hi mx)
  (match d,x with
  | .array n elem,.ptr a=>R.opt 258 (P.info? elem) fun e=>j6b n a e lo hi mx
  | .slice elem,.slice a len cap=>R.opt 260 (P.info? elem) fun e=>optC mx (sl2 a len cap e lo hi) fun _=>sl3 a len cap e lo hi mx
  | .slice elem,.tail a n len cap=>.need (0<len.den) (R.opt 260 (P.info? elem) fun e=>optC mx (sl2 (a.plus n) len cap e lo hi) fun _=>sl3 (a.plus n) len cap e lo hi mx)
  | .slice elem,.nilSlice=>R.opt 260 (P.info? elem) fun _=>qnc mx (.lit 0) (.lit 0) fun m=>qnc hi m (.lit 0) fun h=>qnc lo h (.lit 0) fun _=>vR .nilSlice
  | .string,.str s=>optC mx (q51 s lo hi) fun _=>.stuck 264
  | _,_=>.stuck 266)
  (.stuck 262)
def siOf:SV->Option SI
 | .int .u8 n=>some n
 | _=>none
def qll (l:List SV):Option (List SI):=List.rec (motive:=fun _=>Option (List SI)) (some []) (fun a _ ih=>match siOf a with | some n=>ih.map (n :: ·) | none=>none) l
def SV.num:SV->Int
 | .int _ n=>n.den
 | _=>0
def qkd (f:Nat->SV) (off len:Nat):ByteArray:=⟨((List.range len).map fun i=>UInt8.ofNat (f (off+i)).num.toNat).toArray⟩
def q54:SV->Prop
 | .int .u8 _=>True
 | _=>False
def qoo (l:List SI):Option (List UInt8):=List.rec (motive:=fun _=>Option (List UInt8)) (some []) (fun a _ ih=>a.asLit none fun n=>optC ih none fun r=>some (UInt8.ofNat n.toNat::r)) l
def q4m (l:List SI):SStr:=optC (qoo l) (.bytes l) fun b=>.lit ⟨b.toArray⟩
theorem q9q:∀ {l:List SI} {b:List UInt8},qoo l=some b->b=l.map fun i=>UInt8.ofNat i.den.toNat
 | [],b,h=>by cases h; rfl
 | a::l,b,h=>by
   have h:(a.asLit none fun n=>optC (qoo l) none fun r=>some (UInt8.ofNat n.toNat::r))=some b:=h
   cases a with
   | lit n =>
     have h:(optC (qoo l) none fun r=>some (UInt8.ofNat n.toNat::r))=some b:=h
     cases hr:qoo l with
     | none=>rw [hr] at h; cases h
     | some r =>
       rw [hr] at h
       cases h
       rw [q9q hr]; rfl
   | _=>cases h
theorem qar (l:List SI):(q4m l).den=bytesOf l:=by
 unfold q4m
 cases h:qoo l with
 | none=>rfl
 | some b=>rw [q9q h]; rfl
def qbr (c:Cells) (off len:SN):R OpRes :=
 match c with
 | .lst l=>match off,len with
   | .lit o,.lit n =>
     if lenN (qsa (qhb l o) n)=n then R.opt 267 (qll (qsa (qhb l o) n)) fun b=>vR (.str (q4m b)) else .stuck 268
   | off,len=>optC (unb l) (.stuck 269) fun xs=>.need (off.den+len.den<=lenN xs) (vR (.str (.sym (qkd (qna (q4a xs)) off.den len.den))))
 | .fn f n=>.need (off.den+len.den<=n/\∀ i,i<n->q54 (f i)) (vR (.str (.sym (qkd f off.den len.den))))
 | .raw _ _=>.stuck 905
def qrw (e:SO) (off len:SN):R OpRes :=
 match e with
 | .own c _ _=>qbr c off len
 | .row c=>qbr c off len
 | _=>.stuck 270
def qsw (H:List SO) (x:SV):R OpRes :=
 match x with
 | .nilSlice=>vR (.str (.lit .empty))
 | .slice a len _=>entry H a fun e=>qrw e a.off len
 | .tail a n len _=>entry H a fun e=>qrw e (a.off.add n) len
 | _=>.stuck 271
def qpo (s:ByteArray):Nat->SV:=fun i=>.int .u8 (.b8 (s.data.getD i 0).toBitVec)
def qq8 (base:Nat) (elem:TypeId) (s:SStr):R OpRes :=
 match s with
 | .lit s=>.ok (.val (.slice ⟨base,.lit 0⟩ (.lit s.size) (.rest base 0)) [] [.own (.lst (mapN (fun (b:UInt8)=>.int .u8 (.lit (b.toNat:Int))) s.data.toList)) false elem])
 | .bytes l=>.need (∀ i∈l,0<=i.den/\i.den<256) (.ok (.val (.slice ⟨base,.lit 0⟩ (.lit (lenN l)) (.rest base 0)) [] [.own (.lst (mapN (fun i=>.int .u8 i) l)) false elem]))
 | .sym s=>.ok (.val (.slice ⟨base,.lit 0⟩ (.sym s.size) (.rest base 0)) [] [.own (.fn (qpo s) s.size) false elem])
def qtw (P:Program) (base:Nat) (elem:TypeId) (s:SStr):R OpRes :=
 R.opt 279 (P.info? elem) fun i=>boolC (Nat.beq i.size 1) (qq8 base elem s) (.stuck 279)
def j7b (P:Program) (H:List SO) (src dst e:TypeId) (a:SA) (l:SN) (c:SC):R OpRes :=
 boolC (Nat.beq src dst) (R.opt 826 (P.underlying e) fun
  | .int .u8=>entry H a fun
    | .own _ _ _=>.ok (.touch (.slice a l c) a.nm)
    | _=>.stuck 827
  | _=>.stuck 828) (.stuck 829)
def convT (P:Program) (H:List SO) (base:Nat) (src dst:TypeId) (x:SV):R OpRes :=
 R.opt 272 (P.underlying src) fun s=>R.opt 273 (P.underlying dst) fun d =>
  match s,d,x with
  | .int _,.int k,.int _ n=>vR (.int k (j2b k n))
  | .string,.string,.str s=>vR (.str s)
  | .string,.slice e,.str s=>R.opt 274 (P.underlying e) fun
    | .int .u8=>qtw P base e s
    | _=>.stuck 275
  | .slice _,.slice e,.slice a l c=>j7b P H src dst e a l c
  | .slice e,.string,x=>R.opt 276 (P.underlying e) fun
    | .int .u8=>qsw H x
    | _=>.stuck 277
  | _,_,_=>.stuck 278
def qqo (s:ByteArray):List SI:=mapN (fun (b:UInt8)=>.lit (b.toNat:Int)) s.data.toList
def qcr (l m:List SI):R OpRes:=if lenN l+lenN m<=9223372036854775807 then vR (.str (q4m (app l m))) else .stuck 279
def j8b (op:BinOp) (a b:SStr):R OpRes :=
 match op with
 | .eql=>match a,b with
   | .lit a,.lit b=>vR (.bool (.lit (a.data.toList == b.data.toList)))
   | a,b=>vR (.bool (.sym (decide (a.den=b.den))))
 | .neq=>match a,b with
   | .lit a,.lit b=>vR (.bool (.lit (!(a.data.toList == b.data.toList))))
   | a,b=>vR (.bool (.sym (!decide (a.den=b.den))))
 | .lss=>match a,b with
   | .lit a,.lit b=>vR (.bool (.lit (Op.bytesLess a.data.toList b.data.toList)))
   | a,b=>vR (.bool (.sym (Op.bytesLess a.den.data.toList b.den.data.toList)))
 | .geq=>match a,b with
   | .lit a,.lit b=>vR (.bool (.lit (!Op.bytesLess a.data.toList b.data.toList)))
   | a,b=>vR (.bool (.sym (!Op.bytesLess a.den.data.toList b.den.data.toList)))
 | .leq=>match a,b with
   | .lit a,.lit b=>vR (.bool (.lit (Op.bytesLess a.data.toList b.data.toList || a.data.toList == b.data.toList)))
   | a,b=>vR (.bool (.sym (Op.bytesLess a.den.data.toList b.den.data.toList || decide (a.den=b.den))))
 | .gtr=>match a,b with
   | .lit a,.lit b=>vR (.bool (.lit (!(Op.bytesLess a.data.toList b.data.toList || a.data.toList == b.data.toList))))
   | a,b=>vR (.bool (.sym (!(Op.bytesLess a.den.data.toList b.den.data.toList || decide (a.den=b.den)))))
 | .add=>match a,b with
   | .lit a,.lit b=>if a.size+b.size<=9223372036854775807 then vR (.str (.lit (a++b))) else .stuck 279
   | .lit a,.bytes m=>qcr (qqo a) m
   | .bytes l,.lit b=>qcr l (qqo b)
   | .bytes l,.bytes m=>qcr l m
   | a,b=>.need (a.den.size+b.den.size<=9223372036854775807) (vR (.str (.sym (a.den++b.den))))
 | _=>.stuck 280
def q61 (x y:SV):Option Bool :=
 match x,y with
 | .nilPtr,.nilPtr=>some true
 | .ptr _,.nilPtr | .nilPtr,.ptr _=>some false
 | .nilFunc,.nilFunc=>some true
 | .func _ _ _,.nilFunc | .nilFunc,.func _ _ _=>some false
 | .nilSlice,.nilSlice=>some true
 | .slice _ _ _,.nilSlice | .nilSlice,.slice _ _ _=>some false
 | .tail _ _ _ _,.nilSlice | .nilSlice,.tail _ _ _ _=>some false
 | .nilMap,.nilMap=>some true
 | .map _,.nilMap | .nilMap,.map _=>some false
 | _,_=>none
def qau:TypeDesc->SV->SV->Bool
 | .pointer _,.nilPtr,.nilPtr | .pointer _,.ptr _,.nilPtr | .pointer _,.nilPtr,.ptr _=>true
 | .func _ _ _,.nilFunc,.nilFunc | .func _ _ _,.func _ _ _,.nilFunc | .func _ _ _,.nilFunc,.func _ _ _=>true
 | .slice _,.nilSlice,.nilSlice | .slice _,.slice _ _ _,.nilSlice | .slice _,.nilSlice,.slice _ _ _=>true
 | .slice _,.tail _ _ _ _,.nilSlice | .slice _,.nilSlice,.tail _ _ _ _=>true
 | .map _ _,.nilMap,.nilMap | .map _ _,.map _,.nilMap | .map _ _,.nilMap,.map _=>true
 | _,_,_=>false
def jog:SV->SV->Option SB
 | .int _ (.lit a),.int _ (.lit b)=>some (.lit (a == b))
 | .int _ a,.int _ b=>some (.sym (a.den == b.den))
 | .bool (.lit a),.bool (.lit b)=>some (.lit (a == b))
 | .bool a,.bool b=>some (.sym (a.den == b.den))
 | .str (.lit a),.str (.lit b)=>some (.lit (a.data.toList == b.data.toList))
 | .str a,.str b=>some (.sym (decide (a.den=b.den)))
 | _,_=>none
inductive CK where
 | b | i | s
def qhg (g:TypeId->Option (List CK)):List Field->Nat->Option (List CK)
 | [],_=>some []
 | f::r,off=>(g f.type).bind fun ks=>if f.offset=off/\f.name ≠ "_" then (qhg g r (off+lenN ks)).map fun l=>app ks l else none
def qdr (P:Program) (t:TypeId) (l:List CK):Option (List CK):=(P.info? t).bind fun i=>if i.size=lenN l then some l else none
def qxb (P:Program):Nat->TypeId->Option (List CK)
 | 0,_=>none
 | d+1,t=>(P.underlying t).bind fun
   | .bool=>some [.b]
   | .int _=>some [.i]
   | .string=>some [.s]
   | .array n e=>(qxb P d e).bind fun ks=>(P.info? e).bind fun i=>if i.size=lenN ks then qdr P t (repL ks n) else none
   | .struct fs=>if P.stoodInHeld t then none else (qhg (fun e=>qxb P d e) fs.toList 0).bind fun l=>qdr P t l
   | _=>none
def eqSI (x y:SI):SB:=x.asLit (.sym (x.den == y.den)) fun a=>y.asLit (.sym (x.den == y.den)) fun b=>.lit (eqI a b)
def eqSB (x y:SB):SB:=SB.rec (motive:=fun _=>SB) (fun a=>SB.rec (motive:=fun _=>SB) (fun b=>.lit (a == b)) (fun b=>.sym (a == b)) y) (fun a=>.sym (a == y.den)) x
def eqSS (x y:SStr):SB :=
 match x,y with
 | .lit a,.lit b=>.lit (a.data.toList == b.data.toList)
 | a,b=>.sym (decide (a.den=b.den))
def andS (x y:SB):SB:=SB.rec (motive:=fun _=>SB) (fun a=>boolC a y (.lit false)) (fun a=>SB.rec (motive:=fun _=>SB) (fun b=>boolC b (.sym a) (.lit false)) (fun b=>.sym (a && b)) y) x
def q5m (k:CK) (a b:SV):Option SB :=
 match k,a,b with
 | .i,.int k x,.int k' y=>boolC (eqK k k') (some (eqSI x y)) none
 | .b,.bool x,.bool y=>some (eqSB x y)
 | .s,.str x,.str y=>some (eqSS x y)
 | _,_,_=>none
def q8c:List CK->List SV->List SV->Option SB
 | [],[],[]=>some (.lit true)
 | k::ks,a::az,b::bs=>(q5m k a b).bind fun x=>(q8c ks az bs).map fun y=>andS x y
 | _,_,_=>none
def j9b (P:Program) (op:BinOp) (t:TypeId) (l m:List SV):R OpRes :=
 R.opt 829 (P.underlying t) fun d=>boolC (qbc d) (R.opt 830 (qxb P 8 t) fun ks=>R.opt 831 (q8c ks l m) fun b=>match op with
  | .eql=>vR (.bool b)
  | .neq=>SB.rec (motive:=fun _=>R OpRes) (fun b=>vR (.bool (.lit (!b)))) (fun b=>vR (.bool (.sym (!b)))) b
  | _=>.stuck 832) (.stuck 833)
def bnSh (op:BinOp) (k:IntKind) (a:SI) (_k':IntKind) (b:SI):R OpRes:=(qz4 op k a b).bind fun n=>vR (.int k n)
def bnDv (op:BinOp) (k:IntKind) (a:SI) (k':IntKind) (b:SI):R OpRes:=boolC (eqK k k') ((divS op k a b).bind fun n=>vR (.int k n)) (.stuck 281)
def bnAr (op:BinOp) (k:IntKind) (a:SI) (k':IntKind) (b:SI):R OpRes:=boolC (eqK k k') ((qtk op k a b).bind fun n=>vR (.int k n)) (.stuck 281)
def bnCm (op:BinOp) (k:IntKind) (a:SI) (k':IntKind) (b:SI):R OpRes:=boolC (eqK k k') ((cmpS op a b).bind fun b=>vR (.bool b)) (.stuck 281)
def jac (op:BinOp):IntKind->SI->IntKind->SI->R OpRes :=
 BinOp.rec (motive:=fun _=>IntKind->SI->IntKind->SI->R OpRes) (bnAr .add) (bnAr .sub) (bnAr .mul) (bnDv .quo) (bnDv .rem) (bnAr .and) (bnAr .or) (bnAr .xor) (bnSh .shl) (bnSh .shr) (bnAr .andNot) (bnCm .eql) (bnCm .neq) (bnCm .lss) (bnCm .leq) (bnCm .gtr) (bnCm .geq) op
def q64 (P:Program) (op:BinOp) (t:TypeId) (a b:SB):R OpRes :=
 R.opt 282 (P.underlying t) fun
  | .bool=>match op with
    | .eql=>match jog (.bool a) (.bool b) with | some b=>vR (.bool b) | none=>.stuck 283
    | .neq=>match a,b with
      | .lit a,.lit b=>vR (.bool (.lit (!(a == b))))
      | a,b=>vR (.bool (.sym (!(a.den == b.den))))
    | _=>.stuck 284
  | _=>.stuck 285
def jbc (P:Program) (op:BinOp) (t:TypeId) (x y:SV):R OpRes :=
 R.opt 286 (P.underlying t) fun d =>
  match qau d x y with
  | true=>R.opt 287 (q61 x y) fun b=>match op with
    | .eql=>vR (.bool (.lit b))
    | .neq=>vR (.bool (.lit (!b)))
    | _=>.stuck 288
  | false=>.stuck 289
def qer (P:Program) (op:BinOp) (t:TypeId) (x y:SV):R OpRes :=
 match x,y with
 | .str a,.str b=>j8b op a b
 | .bool a,.bool b=>q64 P op t a b
 | .agg l,.agg m=>j9b P op t l m
 | x,y=>jbc P op t x y
def binT (P:Program) (op:BinOp) (t:TypeId) (x y:SV):R OpRes :=
 x.asInt (qer P op t x y) fun k a=>y.asInt (qer P op t x y) fun k' b=>jac op k a k' b
def unT (op:UnOp) (x:SV):R OpRes :=
 match op,x with
 | .not,.bool (.lit b)=>vR (.bool (.lit (!b)))
 | .not,.bool b=>vR (.bool (.sym (!b.den)))
 | .neg,.int k n=>(qtk .sub k (.lit 0) n).bind fun n=>vR (.int k n)
 | .xor,.int .u8 n=>(qtk .xor .u8 (.lit 255) n).bind fun n=>vR (.int .u8 n)
 | .xor,.int .u32 n=>(qtk .xor .u32 (.lit 4294967295) n).bind fun n=>vR (.int .u32 n)
 | .xor,.int .u64 n=>(qtk .xor .u64 (.lit 18446744073709551615) n).bind fun n=>vR (.int .u64 n)
 | _,_=>.stuck 290
def qml (H:List SO) (size:Nat) (x:SV) (n:SN) (f:List SV->R α):R α :=
 match x,n with
 | .nilSlice,_=>f []
 | .slice a _ _,.lit n=>qno H a (n * size) f
 | .tail a k _ _,.lit n=>qno H (a.plus k) (n * size) f
 | .str (.lit s),.lit n=>boolC (Nat.beq size 1) (f (mapN (fun (b:UInt8)=>.int .u8 (.lit (b.toNat:Int))) (qsa s.data.toList n))) (.stuck 291)
 | .str (.bytes l),.lit n=>boolC (Nat.beq size 1) (.need (∀ i∈l,0<=i.den/\i.den<256) (f (mapN (fun i=>.int .u8 i) (qsa l n)))) (.stuck 291)
 | _,_=>.stuck 291
def lenS (x:SV) (f:SN->R α):R α :=
 match x with
 | .nilSlice=>f (.lit 0)
 | .slice _ n _=>f n
 | .tail _ _ n _=>f n
 | .str (.lit s)=>f (.lit s.size)
 | .str (.bytes l)=>f (.lit (lenN l))
 | .str (.sym s)=>f (.sym s.size)
 | _=>.stuck 292
def fnSl (H:List SO) (a:SA) (n:SN) (f:(Nat->SV)->R α):R α :=
 entry H a fun
  | .own (.fn g m) _ _=>.need (a.off.den+n.den<=m) (f fun i=>g (a.off.den+i))
  | .row (.fn g m)=>.need (a.off.den+n.den<=m) (f fun i=>g (a.off.den+i))
  | .own (.lst l) _ _=>optC (unb l) (.need (a.off.den+n.den<=lenN l) (f fun i=>(nth l (a.off.den+i)).getD qua)) fun xs=>.need (a.off.den+n.den<=lenN xs) (f (qna fun i=>q4a xs (a.off.den+i)))
  | .row (.lst l)=>optC (unb l) (.need (a.off.den+n.den<=lenN l) (f fun i=>(nth l (a.off.den+i)).getD qua)) fun xs=>.need (a.off.den+n.den<=lenN xs) (f (qna fun i=>q4a xs (a.off.den+i)))
  | _=>.stuck 293
def fnOf (H:List SO) (x:SV) (f:(Nat->SV)->R α):R α :=
 match x with
 | .nilSlice=>f fun _=>.int .u8 (.lit 0)
 | .slice a n _=>fnSl H a n f
 | .tail a k n _=>fnSl H (a.plus k) n f
 | .str s=>f (qpo s.den)
 | _=>.stuck 294
def qee (n bytes:Nat):Prop:=n * bytes<140737488355328/\n<140737488355328
def qyf (P:Program) (argTypes:Array TypeId):Bool :=
 match argTypes[1]? with
 | some xt=>match P.underlying xt with
   | some (.slice _)=>true
   | some .string=>true
   | _=>false
 | none=>true
def jcc (base:Nat) (elem:TypeId) (n:Nat) (l:List SV):R OpRes:=.ok (.val (.slice ⟨base,.lit 0⟩ (.lit n) (.rest base 0)) [] [.own (.lst l) false elem])
def jdc (H:List SO) (base:Nat) (elem:TypeId) (size:Nat) (a:SA) (len c n:Nat) (new:List SV):R OpRes :=
 boolC (Nat.ble (len+n) c)
  (boolC (Nat.beq n 0) (vR (.slice a (.lit len) (.lit c)))
   (boolC (allN qcj new) (entry H a fun e=>match e with
    | .own cl w el=>qlo cl (a.off.add (.lit (len * size))) new fun cl=>.ok (.val (.slice a (.lit (len+n)) (.lit c)) [(a.nm,.own cl w el)] [])
    | _=>.stuck 299) (.stuck 300)))
  (qno H a (len * size) fun old=>jcc base elem (len+n) (app old new))
def q74 (H:List SO) (base:Nat) (elem:TypeId) (size:Nat) (a:SA) (len nm k n:Nat) (new:List SV):R OpRes :=
 boolC (Nat.beq n 0) (vR (.slice a (.lit len) (.rest nm k)))
  (boolC (allN qcj new) (boolC (Nat.beq a.nm nm) (boolC (Nat.beq k 0) (a.off.asLit (.stuck 303) fun o=>boolC (Nat.beq o 0)
   (entry H a fun e=>match e with
    | .own (.lst l) _ el=>boolC (Nat.beq el elem) (boolC (Nat.ble (len * size) (lenN l))
      (.ok (.val (.slice ⟨base,.lit 0⟩ (.lit (len+n)) (.rest base 0)) [(a.nm,.gone)] [.own (.lst (app (qsa l (len * size)) new)) false elem])) (.stuck 303)) (.stuck 301)
    | _=>.stuck 302) (.stuck 303)) (.stuck 303)) (.stuck 303)) (.stuck 300))
def qd0 (H:List SO) (base:Nat) (elem:TypeId) (size len n:Nat) (s:SV) (new:List SV):R OpRes :=
 match s with
 | .nilSlice=>boolC (Nat.beq n 0) (vR .nilSlice) (jcc base elem n new)
 | .slice a _ (.lit c)=>jdc H base elem size a len c n new
 | .slice a _ (.rest nm k)=>q74 H base elem size a len nm k n new
 | _=>.stuck 305
def apFn (base:Nat) (elem:TypeId) (size bytes:Nat) (n:SN) (s:SV) (g:Nat->SV):R OpRes :=
 match s with
 | .nilSlice=>.fork (decide (n.den=0)) (.need (size=1) (vR .nilSlice)) (.need (qee n.den bytes/\size=1) (.ok (.val (.slice ⟨base,.lit 0⟩ n (.rest base 0)) [] [.own (.fn g n.den) false elem])))
 | .slice a _ (.lit 0)=>.fork (decide (n.den=0)) (.need (size=1) (vR (.slice a (.lit 0) (.lit 0)))) (.need (qee n.den bytes/\size=1) (.ok (.val (.slice ⟨base,.lit 0⟩ n (.rest base 0)) [] [.own (.fn g n.den) false elem])))
 | _=>.stuck 307
def q71 (e:SO) (off n:Nat) (f:(Nat->BitVec 8)->R α):R α :=
 SO.rec (motive:=fun _=>R α) (fun c _ _=>qni c off n f) (fun c=>qni c off n f) (fun _ _ _ _ _ _ _ _=>.stuck 771) (fun _=>.stuck 771) (.stuck 771) (fun _=>.stuck 771) e
def qej (H:List SO) (x:SV) (n:SN) (f:(Nat->BitVec 8)->R α):R α :=
 match x with
 | .nilSlice=>f fun _=>0#8
 | .slice a _ _=>entry H a fun e=>q71 e a.off.den n.den f
 | .tail a k _ _=>entry H a fun e=>q71 e (a.off.den+k.den) n.den f
 | .str s=>f fun i=>(s.den.data.getD i 0).toBitVec
 | _=>.stuck 772
def catR (base:Nat) (elem:TypeId) (sets:List (Nat × SO)) (len n:SN) (X Y:Nat->BitVec 8):R OpRes :=
 .ok (.val (.slice ⟨base,.lit 0⟩ (len.add n) (.rest base 0)) sets [.own (.fn (qna (catB X len.den Y)) (len.den+n.den)) false elem])
def qbu (H:List SO) (base:Nat) (elem:TypeId) (size bytes:Nat) (a:SA) (nm k:Nat) (len n:SN) (Y:Nat->BitVec 8):R OpRes :=
 boolC (Nat.beq a.nm nm) (boolC (Nat.beq k 0) (a.off.asLit (.stuck 773) fun o=>boolC (Nat.beq o 0) (entry H a fun e=>match e with
  | .own cl _ el=>boolC (Nat.beq el elem) (qni cl 0 len.den fun X=>.need (qee (len.den+n.den) bytes/\size=1) (catR base elem [(a.nm,.gone)] len n X Y)) (.stuck 773)
  | _=>.stuck 773) (.stuck 773)) (.stuck 773)) (.stuck 773)
def q7p (H:List SO) (base:Nat) (elem:TypeId) (size bytes:Nat) (s:SV) (c:SN) (len n:SN) (Y:Nat->BitVec 8):R OpRes :=
 qej H s len fun X=>.need (c.den<len.den+n.den/\qee (len.den+n.den) bytes/\size=1) (catR base elem [] len n X Y)
def q4v (H:List SO) (base:Nat) (elem:TypeId) (size bytes:Nat) (a:SA) (l:SN) (c:SC) (len n:SN) (x:SV):R OpRes :=
 qej H x n fun Y=>SC.rec (motive:=fun _=>R OpRes) (fun c'=>q7p H base elem size bytes (.slice a l (.lit c')) (.lit c') len n Y) (fun c'=>q7p H base elem size bytes (.slice a l (.sym c')) (.sym c') len n Y) (fun nm k=>qbu H base elem size bytes a nm k len n Y) c
def rawE (e:SO) (off n:Nat) (f:(Nat->Value)->R α):R α :=
 SO.rec (motive:=fun _=>R α) (fun c _ _=>qmo c off n f) (fun c=>qmo c off n f) (fun _ _ _ _ _ _ _ _=>.stuck 906) (fun _=>.stuck 906) (.stuck 906) (fun _=>.stuck 906) e
def rawV (H:List SO) (x:SV) (n:Nat) (f:(Nat->Value)->R α):R α :=
 match x with
 | .nilSlice=>f fun _=>undef
 | .slice a _ _=>entry H a fun e=>rawE e a.off.den n f
 | .tail a k _ _=>entry H a fun e=>rawE e (a.off.den+k.den) n f
 | _=>.stuck 907
def rawX (H:List SO) (x:SV):Bool :=
 match x with
 | .slice a _ _=>rawO (nth H a.nm)
 | .tail a _ _ _=>rawO (nth H a.nm)
 | _=>false
def catW (base:Nat) (elem:TypeId) (size:Nat) (sets:List (Nat × SO)) (len n:SN) (X Y:Nat->Value):R OpRes :=
 .ok (.val (.slice ⟨base,.lit 0⟩ (len.add n) (.rest base 0)) sets [.own (.raw (catV X (len.den * size) Y) ((len.den+n.den) * size)) false elem])
def qcu (H:List SO) (base:Nat) (elem:TypeId) (size bytes:Nat) (a:SA) (nm k:Nat) (len n:SN) (Y:Nat->Value):R OpRes :=
 boolC (Nat.beq a.nm nm) (boolC (Nat.beq k 0) (a.off.asLit (.stuck 908) fun o=>boolC (Nat.beq o 0) (entry H a fun e=>match e with
  | .own cl _ el=>boolC (Nat.beq el elem) (qmo cl 0 (len.den * size) fun X=>.need (qee (len.den+n.den) bytes/\∀ i,i<n.den * size->(Y i).oneCell'=true) (catW base elem size [(a.nm,.gone)] len n X Y)) (.stuck 908)
  | _=>.stuck 908) (.stuck 908)) (.stuck 908)) (.stuck 908)
def q8p (H:List SO) (base:Nat) (elem:TypeId) (size bytes:Nat) (a:SA) (l:SN) (sc:SC) (c:Nat) (len n:SN) (Y:Nat->Value):R OpRes :=
 .fork (decide (len.den+n.den<=c))
  (entry H a fun e=>match e with
   | .own cl w el=>putR cl (a.off.den+len.den * size) (n.den * size) Y fun cl=>.need (∀ i,i<n.den * size->(Y i).oneCell'=true) (.ok (.val (.slice a (len.add n) sc) [(a.nm,.own cl w el)] []))
   | _=>.stuck 909)
  (rawV H (.slice a l sc) (len.den * size) fun X=>.need (qee (len.den+n.den) bytes) (catW base elem size [] len n X Y))
def q84 (H:List SO) (base:Nat) (elem:TypeId) (size bytes:Nat) (a:SA) (l:SN) (len n:SN) (Y:Nat->Value):R OpRes :=
 .fork (decide (len.den+n.den<=0)) (vR (.slice a (.lit 0) (.lit 0)))
  (rawV H (.slice a l (.lit 0)) (len.den * size) fun X=>.need (qee (len.den+n.den) bytes) (catW base elem size [] len n X Y))
def qro (H:List SO) (base:Nat) (elem:TypeId) (size bytes:Nat) (len n:SN) (s x:SV):R OpRes :=
 rawV H x (n.den * size) fun Y=>match s with
  | .nilSlice=>.fork (decide (n.den=0)) (vR .nilSlice) (.need (qee n.den bytes) (.ok (.val (.slice ⟨base,.lit 0⟩ n (.rest base 0)) [] [.own (.raw Y (n.den * size)) false elem])))
  | .slice a _ (.rest nm k)=>qcu H base elem size bytes a nm k len n Y
  | .slice a l (.lit c)=>boolC (Nat.beq c 0) (q84 H base elem size bytes a l len n Y) (q8p H base elem size bytes a l (.lit c) c len n Y)
  | .slice a l (.sym c)=>q8p H base elem size bytes a l (.sym c) c len n Y
  | _=>.stuck 910
def jec (H:List SO) (base:Nat) (elem:TypeId) (size bytes:Nat) (isb:Bool) (len n:SN) (s x:SV):R OpRes :=
 match s with
 | .slice a l (.lit (c+1))=>boolC isb (q4v H base elem size bytes a l (.lit (c+1)) len n x) (qro H base elem size bytes len n (.slice a l (.lit (c+1))) x)
 | .slice a l (.sym c)=>boolC isb (boolC (rawX H (.slice a l (.sym c))) (qro H base elem size bytes len n (.slice a l (.sym c)) x) (q4v H base elem size bytes a l (.sym c) len n x)) (qro H base elem size bytes len n (.slice a l (.sym c)) x)
 | .slice a l (.rest nm k)=>boolC isb (q4v H base elem size bytes a l (.rest nm k) len n x) (qro H base elem size bytes len n (.slice a l (.rest nm k)) x)
 | s=>boolC (rawX H x) (qro H base elem size bytes len n s x) (fnOf H x fun g=>apFn base elem size bytes n s g)
def isZ1 (z:List SV):Bool:=match z with | [.int .u8 (.lit 0)]=>true | _=>false
def q1i (P:Program) (H:List SO) (base:Nat) (argTypes:Array TypeId) (s x:SV):R OpRes :=
 R.opt 295 argTypes[0]? fun st=>R.opt 296 (P.underlying st) fun d=>TypeDesc.asSl d (.stuck 308) fun elem =>
  R.opt 297 (P.info? elem) fun e=>boolC (qyf P argTypes)
   (R.opt 297 (qoi P elem) fun z=>boolC (Nat.beq (lenN z) e.size)
    (lenS x fun n=>lenS s fun len =>
     match len,n with
     | .lit len,.lit n=>boolC (Nat.blt ((len+n) * e.bytes) 140737488355328) (boolC (Nat.blt (len+n) 140737488355328)
       (qml H e.size x (.lit n) fun new=>qd0 H base elem e.size len n s new) (.stuck 306)) (.stuck 306)
     | len,n=>jec H base elem e.size e.bytes (isZ1 z) len n s x)
    (.stuck 298))
   (.stuck 298)
def q5d (n:Nat):ByteArray:=⟨Array.replicate n 0⟩
def quw (P:Program) (t:TypeId):Bool:=optC (P.underlying t) false fun d=>match d with | .int _=>true | _=>false
def qe0 (P:Program) (H:List SO) (base:Nat) (st:TypeId) (bytes:Nat) (s:SV) (len:SN) (n:SI):R OpRes :=
 n.asLit (.need (0<=n.den/\qee (len.den+n.den.toNat) bytes) (q1i P H base #[st] s (.str (.sym (q5d n.den.toNat))))) fun m=>intC m
  (fun m=>len.asLit (.need (qee (len.den+m) bytes) (q1i P H base #[st] s (.str (.lit (q5d m))))) fun l=>boolC (Nat.blt ((l+m) * bytes) 140737488355328) (boolC (Nat.blt (l+m) 140737488355328) (q1i P H base #[st] s (.str (.lit (q5d m)))) (.stuck 824)) (.stuck 824))
  (fun _=>.stuck 824)
def jld (P:Program) (H:List SO) (base:Nat) (argTypes:Array TypeId) (s x:SV):R OpRes :=
 R.opt 820 argTypes[0]? fun st=>R.opt 820 argTypes[1]? fun tn=>boolC (quw P tn)
  (R.opt 821 (P.underlying st) fun d=>TypeDesc.asSl d (.stuck 821) fun elem=>R.opt 821 (P.info? elem) fun e=>R.opt 821 (qoi P elem) fun z=>boolC (isZ1 z) (boolC (Nat.beq e.size 1)
   (lenS s fun len=>x.asInt (.stuck 822) fun _ n=>qe0 P H base st e.bytes s len n) (.stuck 823)) (.stuck 823)) (.stuck 825)
def qf0 (P:Program) (H:List SO) (base:Nat) (argTypes:Array TypeId) (s x:SV):R OpRes:=boolC (qyf P argTypes) (q1i P H base argTypes s x) (jld P H base argTypes s x)
def qfr (H:List SO) (d x:SV) (m:SN) (g:R OpRes->R OpRes):R OpRes :=
 match d with
 | .slice a _ _=>qej H x m fun Y=>g (entry H a fun e=>match e with
   | .own cl w el=>putC cl a.off.den m.den Y fun cl=>.ok (.val (.int .i64 m.toI) [(a.nm,.own cl w el)] [])
   | _=>.stuck 315)
 | _=>.stuck 315
def jpg (H:List SO) (d:SV):Bool :=
 match d with
 | .slice a _ _=>optC (nth H a.nm) false fun e=>match e with | .own (.lst l) _ _=>optC (unb l) true fun _=>false | _=>false
 | _=>false
def q81 (H:List SO) (d x:SV) (len n:SN):R OpRes :=
 boolC (jpg H d) (.fork (decide (n.den<=len.den)) (qfr H d x n fun r=>r) (qfr H d x len fun r=>r)) (qfr H d x n fun r=>.need (n.den<=len.den) r)
def jfc (P:Program) (H:List SO) (argTypes:Array TypeId) (d x:SV):R OpRes :=
 R.opt 309 argTypes[0]? fun dt=>R.opt 310 (P.underlying dt) fun
  | .slice elem=>R.opt 311 (P.info? elem) fun e =>
    lenS x fun n=>lenS d fun len =>
     match len,n with
     | .lit len',.lit n' =>
       let m:=Nat.min n' len'
       qml H e.size x (.lit m) fun new =>
        match d with
        | .nilSlice=>vR (.int .i64 (.lit (m:Int)))
        | .slice a _ _ =>
          match m with
          | 0=>vR (.int .i64 (.lit 0))
          | _=>match allN qcj new with
            | true=>entry H a fun
              | .own cl w el=>qlo cl a.off new fun cl=>.ok (.val (.int .i64 (.lit (m:Int))) [(a.nm,.own cl w el)] [])
              | _=>.stuck 312
            | false=>.stuck 313
        | _=>.stuck 314
     | len,n=>boolC (Nat.beq e.size 1) (q81 H d x len n) (.stuck 315)
  | _=>.stuck 316
def lenT (P:Program) (argTypes:Array TypeId) (x:SV):R OpRes :=
 R.opt 317 argTypes[0]? fun t=>R.opt 318 (P.underlying t) fun d =>
  match d,x with
  | .string,.str s=>lenS (.str s) fun n=>vR (.int .i64 n.toI)
  | .array n _,_=>vR (.int .i64 (.lit (n:Int)))
  | .slice _,.slice _ n _=>vR (.int .i64 n.toI)
  | .slice _,.tail _ _ n _=>vR (.int .i64 n.toI)
  | .slice _,.val (.slice _ n _)=>vR (.int .i64 (.sym (n:Int)))
  | .slice _,.nilSlice=>vR (.int .i64 (.lit 0))
  | .map _ _,.nilMap=>vR (.int .i64 (.lit 0))
  | _,_=>.stuck 319
abbrev OpF:=Program->(Operand->SV)->List SO->Nat->R OpRes
def memN (n:Nat) (l:List Nat):Bool:=List.rec (motive:=fun _=>Bool) false (fun a _ ih=>boolC (Nat.beq a n) true ih) l
def qpe (v:SV):List SV:=v.asAgg [v] fun l=>l
def mapH (H:List SO) (v:SV) (nil:R α) (f:Nat->List (SV × SV × Nat)->Nat->R α):R α :=
 match v with
 | .nilMap=>nil
 | .map nm=>match nth H nm with
   | some (.obj (.map es c))=>f nm es c
   | _=>.stuck 850
 | _=>.stuck 851
def mapG (H:List SO) (v:SV) (nil:R α) (f:Nat->List (SV × SV × Nat)->Nat->R α) (g:Nat->MSh->MSh->List MapEntry->Nat->R α):R α :=
 match v with
 | .nilMap=>nil
 | .map nm=>match nth H nm with
   | some (.obj (.map es c))=>f nm es c
   | some (.obj (.amap ks vs es c))=>g nm ks vs es c
   | _=>.stuck 850
 | _=>.stuck 851
def fit1 (k:SK) (v:SV):Bool :=
 match k,v with
 | .i .u8,.int .u8 n=>optC (si8 n) false fun _=>true
 | .i .u32,.int .u32 (.b32 _)=>true
 | .i .u64,.int .u64 (.b64 _)=>true
 | .i .i64,.int .i64 _=>true
 | .b,.bool _=>true
 | .s,.str _=>true
 | _,_=>false
def qyj:List SK->List SV->Bool
 | [],[]=>true
 | k::ks,v::l=>boolC (fit1 k v) (qyj ks l) false
 | _,_=>false
def qnl (s:MSh) (v:SV):Option Value :=
 boolC s.agg (v.asAgg none fun l=>boolC (qyj s.cells l) ((qfc l).map fun xs=>.agg xs.toArray) none) (match s.cells with | [k]=>boolC (fit1 k v) (valC v) none | _=>none)
def layU (ks:List SK) (v:SV):Option Value:=match ks with | [.v]=>valC v | _=>none
def layV (s:MSh) (v:SV):Option Value:=optC (qnl s v) (boolC s.agg none (layU s.cells v)) some
def q4c (K:Value) (e:MapEntry):Bool:=@decide (e.key=K) (Classical.propDecidable _)
def posK (es:List MapEntry) (K:Value):Option Nat:=es.findIdx? (q4c K)
def hasK (es:List MapEntry) (K:Value):Bool:=es.any (q4c K)
def getK (es:List MapEntry) (K:Value):Value:=((es.find? (q4c K)).map (·.val)).getD undef
def setK (es:List MapEntry) (K V:Value):List MapEntry:=optC (posK es K) es fun i=>optC (es[i]?) es fun e=>es.set i ⟨K,V,e.born⟩
def insK (es:List MapEntry) (c:Nat) (K V:Value):List MapEntry:=es++[⟨K,V,c⟩]
def delK (es:List MapEntry) (K:Value):List MapEntry:=es.eraseP (q4c K)
def aggB (v:SV):Bool:=v.asAgg false fun _=>true
def qol (ks:List CK) (k v:SV):Option SB:=boolC (aggB k == aggB v) (q8c ks (qpe k) (qpe v)) none
def qzj (ks:List CK) (k:SV) (yes:Nat->SV × SV × Nat->R α) (no:R α) (es:List (SV × SV × Nat)):Nat->R α :=
 List.rec (motive:=fun _=>Nat->R α) (fun _=>no) (fun e _ ih i=>optC (qol ks k e.1) (.stuck 852) fun b=>SB.rec (motive:=fun _=>R α) (fun b=>boolC b (yes i e) (ih (Nat.succ i))) (fun b=>.fork b (yes i e) (ih (Nat.succ i))) b) es
def q5v (P:Program) (t:TypeId):Option SV:=((P.info? t).bind (·.zero)).map q1q
def keyT (P:Program) (t:TypeId) (k:SV) (f:TypeId->List CK->R α):R α :=
 R.opt 853 (P.underlying t) fun
  | .map kt et=>R.opt 854 (P.underlying kt) fun d=>R.opt 855 (qxb P 8 kt) fun ks=>R.opt 856 (qol ks k k) fun _=>boolC (qbc d == aggB k) (f et ks) (.stuck 857)
  | _=>.stuck 858
def q9p (t:TypeId) (r:Option Operand):OpF:=fun P ev _ base=>match r with
 | none=>.ok (.val (.map base) [] [.obj (.map [] 0)])
 | some h=>match ev h with
   | .int _ _=>R.opt 859 (P.underlying t) fun
     | .map _ _=>.ok (.val (.map base) [] [.obj (.map [] 0)])
     | _=>.stuck 860
   | _=>.stuck 861
def okT (ok:Bool) (v:SV) (b:Bool):SV:=boolC ok (.tuple [v,.bool (.lit b)]) v
def qg0 (t:TypeId) (x k:Operand) (ok:Bool):OpF:=fun P ev H _ =>
 keyT P t (ev k) fun et ks=>R.opt 862 (q5v P et) fun z=>mapG H (ev x) (vR (okT ok z false)) (fun _ es _=>qzj ks (ev k) (fun _ e=>vR (okT ok e.2.1 true)) (vR (okT ok z false)) es 0)
  fun _ kS vS es _=>R.opt 920 (qnl kS (ev k)) fun K=>.fork (hasK es K) (vR (okT ok (vS.see (getK es K)) true)) (vR (okT ok z false))
def putA (nm:Nat) (kS vS:MSh) (es:List MapEntry) (c:Nat):R OpRes:=.ok (.val qua [(nm,.obj (.amap kS vS es c))] [])
def putM (nm:Nat) (es:List (SV × SV × Nat)) (c:Nat):R OpRes:=.ok (.val qua [(nm,.obj (.map es c))] [])
def qvg (t:TypeId) (m k x:Operand):OpF:=fun P ev H _ =>
 keyT P t (ev k) fun _ ks=>mapG H (ev m) (.stuck 863) (fun nm es c=>qzj ks (ev k) (fun i e=>putM nm (setN es i (ev k,ev x,e.2.2)) c) (putM nm (app es [(ev k,ev x,c)]) (Nat.succ c)) es 0)
  fun nm kS vS es c=>R.opt 920 (qnl kS (ev k)) fun K=>optC (layV vS (ev x)) (.ok (.val qua [(nm,.gone)] [])) fun V=>.fork (hasK es K) (putA nm kS vS (setK es K V) c) (putA nm kS vS (insK es c K V) (c+1))
def qdu (t:TypeId) (m k:Operand):OpF:=fun P ev H _ =>
 keyT P t (ev k) fun et ks=>R.opt 862 (q5v P et) fun z=>mapH H (ev m) (.stuck 863) fun nm es c =>
  qzj ks (ev k) (fun i e=>.ok (.val (.tuple [e.2.1,.int .i64 (.lit (Int.ofNat e.2.2))]) [(nm,.obj (.map (setN es i (ev k,e.2.1,e.2.2)) c))] []))
   (.ok (.val (.tuple [z,.int .i64 (.lit (Int.ofNat c))]) [(nm,.obj (.map (app es [(ev k,z,c)]) (Nat.succ c)))] [])) es 0
def qaq (b:Nat) (yes:Nat->SV × SV × Nat->R α) (es:List (SV × SV × Nat)):Nat->R α :=
 List.rec (motive:=fun _=>Nat->R α) (fun _=>.stuck 864) (fun e _ ih i=>boolC (Nat.beq e.2.2 b) (yes i e) (ih (Nat.succ i))) es
def qip (_t:TypeId) (m s x:Operand):OpF:=fun _ ev H _ =>
 mapH H (ev m) (.stuck 865) fun nm es c=>match ev s with
  | .int _ (.lit (.ofNat b))=>qaq b (fun i e=>putM nm (setN es i (e.1,ev x,e.2.2)) c) es 0
  | _=>.stuck 866
def q94 {β:Type} (l:List β):Nat->List β :=
 List.rec (motive:=fun _=>Nat->List β) (fun _=>[]) (fun a t ih n=>Nat.rec (motive:=fun _=>List β) t (fun m _=>a::ih m) n) l
def qh0 (P:Program) (H:List SO) (argTypes:Array TypeId) (m k:SV):R OpRes :=
 R.opt 867 argTypes[0]? fun t=>keyT P t k fun _ ks=>mapG H m (vR (.tuple [])) (fun nm es c=>qzj ks k (fun i _=>putM nm (q94 es i) c) (putM nm es c) es 0)
  fun nm kS vS es c=>R.opt 920 (qnl kS k) fun K=>putA nm kS vS (delK es K) c
def qa5 (P:Program) (H:List SO) (argTypes:Array TypeId) (m:SV):R OpRes :=
 R.opt 868 argTypes[0]? fun t=>R.opt 869 (P.underlying t) fun
  | .map _ _=>mapH H m (vR (.tuple [])) fun nm _ c=>putM nm [] c
  | _=>.stuck 870
def lenM (P:Program) (H:List SO) (argTypes:Array TypeId) (x:SV):R OpRes :=
 match x with
 | .map nm=>R.opt 871 argTypes[0]? fun t=>R.opt 872 (P.underlying t) fun
   | .map _ _=>mapG H (.map nm) (.stuck 873) (fun _ es _=>vR (.int .i64 (.lit (Int.ofNat (lenN es))))) fun _ _ _ es _=>vR (.int .i64 (.sym (Int.ofNat es.length)))
   | _=>.stuck 874
 | x=>lenT P argTypes x
def newO (base:Nat) (o:SObj):R OpRes:=.ok (.val (.ptr ⟨base,.lit 0⟩) [] [.obj o])
def qb5 (t:TypeId) (x:Operand):OpF:=fun P ev H base =>
 R.opt 875 (P.underlying t) fun
  | .string=>match ev x with
    | .str s=>newO base (.str s 0)
    | _=>.stuck 876
  | .map _ _=>mapG H (ev x) (newO base (.iter none 0 [] 0)) (fun nm _ c=>newO base (.iter (some nm) c [] c)) fun nm _ _ _ c=>newO base (.iter (some nm) c [] c)
  | _=>.stuck 877
def q6d {β:Type} (f:β->Bool) (l:List β):List β:=List.rec (motive:=fun _=>List β) [] (fun a _ ih=>boolC (f a) (a::ih) ih) l
def qpi (es:List (SV × SV × Nat)) (seen:List Nat):List (SV × SV × Nat):=q6d (fun e=>boolC (memN e.2.2 seen) false true) es
def oldM (l:List (SV × SV × Nat)) (since:Nat):List (SV × SV × Nat):=q6d (fun e=>Nat.blt e.2.2 since) l
def newM (l:List (SV × SV × Nat)) (since:Nat):List (SV × SV × Nat):=q6d (fun e=>Nat.ble since e.2.2) l
def nilN {β:Type} (l:List β):Bool:=List.rec (motive:=fun _=>Bool) true (fun _ _ _=>false) l
def q6v (l:List (SV × SV × Nat)) (since:Nat):List (Option (SV × SV × Nat)) :=
 app (boolC (nilN (oldM l since)) [none] []) (mapN (fun e=>some e) (app (oldM l since) (newM l since)))
def q91 (f:Option (SV × SV × Nat)->R OpRes) (l:List (Option (SV × SV × Nat))):Nat->Nat->R OpRes :=
 List.rec (motive:=fun _=>Nat->Nat->R OpRes) (fun _ _=>.stuck 878) (fun a r ih n i=>List.rec (motive:=fun _=>R OpRes) (f a) (fun _ _ _=>.fork (decide (n=i)) (f a) (ih n (Nat.succ i))) r) l
def oneM (f:Option (SV × SV × Nat)->R OpRes) (l:List (Option (SV × SV × Nat))):R OpRes :=
 List.rec (motive:=fun _=>R OpRes) (.stuck 879) (fun a r _=>List.rec (motive:=fun _=>R OpRes) (f a) (fun _ _ _=>.any fun z=>q91 f l (z 0) 0) r) l
def overR:R OpRes:=vR (.tuple [.bool (.lit false)])
def qa2 (es:List (SV × SV × Nat)) (seen:List Nat) (last:Nat):Bool :=
 boolC (nilN seen) false (boolC (nilN es) false (allN (fun e=>Nat.ble last e.2.2) es))
def q7a (es:List MapEntry) (seen:List Nat):List MapEntry:=es.filter fun e => !seen.contains e.born
def q0e (l:List MapEntry) (n:Nat):MapEntry:=(l[n % l.length]?).getD ⟨undef,undef,0⟩
def qb2 (es:List MapEntry) (seen:List Nat) (last:Nat):Prop:=seen≠[]/\es≠[]/\∀ e∈es,last<=e.born
def nextA (it m since:Nat) (seen:List Nat) (last:Nat) (kS vS:MSh) (es:List MapEntry) (c:Nat):R OpRes :=
 .need (¬ qb2 es seen last/\∀ e∈es,e.born<since) (.fork (q7a es seen).isEmpty overR (.any fun z =>
  .ok (.val (.tuple [.bool (.lit true),kS.see (q0e (q7a es seen) (z 0)).key,vS.see (q0e (q7a es seen) (z 0)).val]) [(it,.obj (.iter (some m) since (app seen [(q0e (q7a es seen) (z 0)).born]) c))] [])))
def qc2 (H:List SO) (it m since:Nat) (seen:List Nat) (last:Nat):R OpRes :=
 match nth H m with
 | some (.obj (.amap kS vS es c))=>nextA it m since seen last kS vS es c
 | some (.obj (.map es c))=>boolC (qa2 es seen last) (.stuck 880) (oneM (fun o=>optC o overR fun e =>
   .ok (.val (.tuple [.bool (.lit true),e.1,e.2.1]) [(it,.obj (.iter (some m) since (app seen [e.2.2]) c))] [])) (q6v (qpi es seen) since))
 | _=>.stuck 881
def qd2 (it:Nat) (s:SStr) (pos:Nat):R OpRes :=
 match s with
 | .lit b=>boolC (Nat.blt pos b.size) (.ok (.val (.tuple [.bool (.lit true),.int .i64 (.lit (Int.ofNat pos)),.int .i32 (.lit (Utf8.decode b pos).1)]) [(it,.obj (.str s (pos+(Utf8.decode b pos).2)))] [])) overR
 | s=>.fork (decide (pos<s.den.size)) (.ok (.val (.tuple [.bool (.lit true),.int .i64 (.sym (Int.ofNat pos)),.int .i32 (.sym (Utf8.decode s.den pos).1)]) [(it,.obj (.str s (pos+(Utf8.decode s.den pos).2)))] [])) overR
def jgc (x:Operand) (isString:Bool):OpF:=fun _ ev H _ =>
 ptrS (ev x) fun a=>a.off.asLit (.stuck 882) fun o=>boolC (Nat.beq o 0) (match nth H a.nm with
  | some (.obj (.iter none _ _ _))=>boolC isString (.stuck 883) overR
  | some (.obj (.iter (some m) since seen last))=>boolC isString (.stuck 883) (qc2 H a.nm m since seen last)
  | some (.obj (.str s pos))=>boolC isString (qd2 a.nm s pos) (.stuck 883)
  | _=>.stuck 884) (.stuck 885)
def qe2 (l:List Nat):Option Nat:=List.rec (motive:=fun _=>Option Nat) none (fun a r ih=>List.rec (motive:=fun _=>Option Nat) (some a) (fun _ _ _=>ih) r) l
def qf2 (s:Nat) (f:SV × SV × Nat->R α) (es:List (SV × SV × Nat)):R α:=List.rec (motive:=fun _=>R α) (.stuck 888) (fun e _ ih=>boolC (Nat.beq e.2.2 s) (f e) ih) es
def q1e (seen:List Nat):Nat:=(seen.getLast?).getD 0
def getB (es:List MapEntry) (s:Nat):MapEntry:=(es.find? fun e=>e.born == s).getD ⟨undef,undef,0⟩
def jqg (kS vS:MSh) (es:List MapEntry) (c:Nat) (seen:List Nat) (stepped:Nat):R OpRes :=
 .need (c=stepped/\seen≠[]/\∃ e∈es,e.born=q1e seen) (vR (.tuple [kS.see (getB es (q1e seen)).key,vS.see (getB es (q1e seen)).val]))
def qc5 (H:List SO) (m:Nat) (seen:List Nat) (stepped:Nat):R OpRes :=
 match nth H m with
 | some (.obj (.amap kS vS es c))=>jqg kS vS es c seen stepped
 | some (.obj (.map es c))=>boolC (Nat.beq c stepped) (optC (qe2 seen) (.stuck 887) fun s=>qf2 s (fun e=>vR (.tuple [e.1,e.2.1])) es) (.stuck 889)
 | _=>.stuck 890
def qd5 (x:Operand):OpF:=fun _ ev H _ =>
 ptrS (ev x) fun a=>a.off.asLit (.stuck 886) fun o=>boolC (Nat.beq o 0) (match nth H a.nm with
  | some (.obj (.iter (some m) _ seen stepped))=>qc5 H m seen stepped
  | _=>.stuck 891) (.stuck 885)
def min2 (x y:SV):R SV :=
 match x,y with
 | .int k (.lit a),.int _ (.lit b)=>.ok (.int k (.lit (if b<a then b else a)))
 | .int k a,.int _ b=>.fork (decide (b.den<a.den)) (.ok (.int k b)) (.ok (.int k a))
 | _,_=>.stuck 320
def max2 (x y:SV):R SV :=
 match x,y with
 | .int k (.lit a),.int _ (.lit b)=>.ok (.int k (.lit (if a<b then b else a)))
 | .int k a,.int _ b=>.ok (.int k (.sym (if a.den<b.den then b.den else a.den)))
 | _,_=>.stuck 321
def qbq (P:Program) (H:List SO) (base:Nat) (b:Builtin) (argTypes:Array TypeId) (args:List SV):R OpRes :=
 match b,args with
 | .len,x::_=>lenM P H argTypes x
 | .delete,[m,k]=>qh0 P H argTypes m k
 | .clear,[m]=>qa5 P H argTypes m
 | .append,[s,x]=>qf0 P H base argTypes s x
 | .copy,[d,x]=>jfc P H argTypes d x
 | .min,[x,y]=>(min2 x y).bind fun v=>vR v
 | .max,[x,y]=>(max2 x y).bind fun v=>vR v
 | _,_=>.stuck 322
def jrg (g:Fn) (first args captured:List SV):R OpRes :=
 Fn.rec (motive:=fun _=>R OpRes) (fun g=>.ok (.enter g (app first (app args captured)))) (fun _=>.stuck 323) (fun _ _=>.stuck 323) (fun _ _ _ _=>.stuck 323) (fun _=>.stuck 323) g
def callT (f:SV) (args:List SV):R OpRes :=
 f.asFunc (.stuck 324) fun fn first captured=>SFn.rec (motive:=fun _=>R OpRes) (fun g=>jrg g first args captured) (fun nm=>.ok (.round nm (app first args))) fn
def viaT (P:Program) (path:List FieldStep) (g:FuncId) (args:List SV):R OpRes :=
 match path,args with
 | [s],.agg l::rest=>match s.deref with
   | true=>.stuck 842
   | false=>R.opt 343 (P.underlying s.struct) fun
     | .struct fields=>R.opt 344 (nth fields.toList s.index) fun f=>R.opt 345 (P.underlying f.type) fun
       | .pointer _=>q1v P f.type l f.offset fun v=>.ok (.enter g (v::rest))
       | _=>.stuck 846
     | _=>.stuck 847
 | _,_=>.stuck 848
def q7s (P:Program) (t:TypeId) (name:String) (args:List SV):R OpRes :=
 R.opt 349 (P.underlying t) fun
  | .struct _=>R.opt 350 (P.info? t) fun i=>R.opt 351 (i.methods.find? (·.name == name)) fun m=>match m.func with
    | some (g,true)=>viaT P m.path.toList g args
    | _=>.stuck 852
  | _=>.stuck 853
def qg2 (P:Program) (f:SV) (args:List SV):R OpRes :=
 match f with
 | .func (.fn (.via _ path g true)) first _=>viaT P path.toList g (app first args)
 | .func (.fn (.methodOf t name)) first _=>q7s P t name (app first args)
 | f=>callT f args
def evTmp (t:Nat) (_glob:Nat->Option Nat) (T:List SV):SV:=optC (nth T t) qua fun v=>v
def jmd (v:Value) (_glob:Nat->Option Nat) (_T:List SV):SV:=q1q v
def qwg (g:Nat) (glob:Nat->Option Nat) (_T:List SV):SV :=
 match glob g with
 | some nm=>.ptr ⟨nm,.lit 0⟩
 | none=>.val (.pointer (some ⟨g,0,none⟩))
def jsg (f:FuncId) (_glob:Nat->Option Nat) (_T:List SV):SV:=.func (.fn (.func f)) [] []
def evO (x:Operand):(Nat->Option Nat)->List SV->SV:=Operand.rec (motive:=fun _=>(Nat->Option Nat)->List SV->SV) evTmp jmd qwg jsg x
def evS (glob:Nat->Option Nat) (T:List SV) (x:Operand):SV:=evO x glob T
def nilFn (g:SFn) (x:SV):R OpRes:=SFn.rec (motive:=fun _=>R OpRes) (fun g=>Fn.rec (motive:=fun _=>R OpRes) (fun _=>vR x) (fun _=>.stuck 325) (fun _ _=>vR x) (fun _ _ _ _=>vR x) (fun _=>vR x) g) (fun _=>vR x) g
def jnd (x:SV):R OpRes :=
 match x with
 | .slice a l c=>vR (.slice a l c)
 | .tail a n l c=>vR (.tail a n l c)
 | .func g xs ys=>nilFn g (.func g xs ys)
 | _=>.stuck 325
def qeu (x:SV):R OpRes:=x.asPtr (jnd x) fun a=>vR (.ptr a)
def q7v (x:Operand):OpF:=fun _ ev _ _=>vR (ev x)
def qh2 (c a b:Operand):OpF:=fun _ ev _ _ =>
 match ev c with
 | .bool (.lit true)=>vR (ev a)
 | .bool (.lit false)=>vR (ev b)
 | .bool (.sym c)=>.fork c (vR (ev a)) (vR (ev b))
 | _=>.stuck 326
def qe5 (elem:TypeId):OpF:=fun P _ _ base=>R.opt 327 (qoi P elem) fun z=>.ok (.val (.ptr ⟨base,.lit 0⟩) [] [.own (.lst z) true elem])
def oBox (elem:TypeId) (x:Operand):OpF:=fun _ ev _ base=>.ok (.val (.ptr ⟨base,.lit 0⟩) [] [.own (.lst (qug (ev x))) true elem])
def qf5 (t:TypeId) (parts:Array (Nat × Operand)):OpF:=fun P ev _ _=>jlg P t (q34 ev parts)
def qjp (t:TypeId) (len:Nat) (parts:Array (Nat × Operand)):OpF:=fun P ev _ base=>qaz P base t len (q34 ev parts)
def jhc (t:TypeId) (a:Operand):OpF:=fun P ev H _=>ptrS (ev a) fun a=>q21 P H t a vR
def qg5 (t:TypeId) (a x:Operand):OpF:=fun P ev H _=>ptrS (ev a) fun a=>jkg P H t a (ev x)
def oNil (x:Operand):OpF:=fun _ ev _ _=>qeu (ev x)
def oBin (op:BinOp) (t:TypeId) (x y:Operand) (_yt:TypeId):OpF:=fun P ev _ _=>binT P op t (ev x) (ev y)
def oUn (op:UnOp) (_t:TypeId) (x:Operand):OpF:=fun _ ev _ _=>unT op (ev x)
def jic (src dst:TypeId) (x:Operand):OpF:=fun P ev H base=>convT P H base src dst (ev x)
def oArr (arr:TypeId) (x:Operand):OpF:=fun P ev _ _ =>
 R.opt 328 (P.underlying arr) fun
  | .array n _=>match ev x with
    | .slice a len _=>match len with
      | .lit l=>match Nat.blt l n with
        | true=>.stuck 329
        | false=>vR (.ptr a)
      | .sym l=>.need (n<=l) (vR (.ptr a))
      | .byt o x=>.need (n<=o+x.toNat) (vR (.ptr a))
    | _=>.stuck 330
  | _=>.stuck 331
def qh5 (t:TypeId) (x:Operand):OpF:=fun P ev _ _ =>
 R.opt 332 (P.underlying t) fun
  | .interface _=>.stuck 333
  | _=>vR (.iface t (ev x))
def qi2 (fn:Fn) (first captured:Array Operand):OpF:=fun _ ev _ _ =>
 match fn with
 | .func f=>vR (.func (.fn (.func f)) (mapN ev first.toList) (mapN ev captured.toList))
 | .via t path f p=>vR (.func (.fn (.via t path f p)) (mapN ev first.toList) (mapN ev captured.toList))
 | .methodOf t name=>vR (.func (.fn (.methodOf t name)) (mapN ev first.toList) (mapN ev captured.toList))
 | _=>.stuck 334
def qgr (t:TypeId) (l c:Operand):OpF:=fun P ev _ base=>q31 P base t (ev l) (ev c)
def qvw (t:TypeId) (x:Operand) (lo hi mx:Option Operand):OpF:=fun P ev _ _=>jng P t (ev x) (lo.map ev) (hi.map ev) (mx.map ev)
def qhr (s:TypeId) (x:Operand) (f:Nat):OpF:=fun P ev _ _=>q41 P s (ev x) f
def qww (t:TypeId) (x:Operand) (f:Nat):OpF:=fun P ev _ _ =>
 match ev x with
 | .agg l=>R.opt 335 (P.underlying t) fun
   | .struct fields=>R.opt 336 (nth fields.toList f) fun f=>q1v P f.type l f.offset vR
   | _=>.stuck 337
 | _=>.stuck 338
def qpl (t:TypeId) (x i:Operand):OpF:=fun P ev _ _=>q8q P t (ev x) (ev i)
def qxw (t:TypeId) (x i:Operand):OpF:=fun P ev _ _=>q44 P t (ev x) (ev i)
def qcq (t:Operand) (i:Nat):OpF:=fun _ ev _ _ =>
 match ev t with
 | .tuple l=>R.opt 339 (nth l i) vR
 | _=>.stuck 340
def qi5 (f:Operand) (c:Call):OpF:=fun P ev _ _=>qg2 P (ev f) (mapN ev c.args.toList)
def qj5 (b:Builtin) (c:Call):OpF:=fun P ev H base=>qbq P H base b c.argTypes (mapN ev c.args.toList)
def jtg (_r:Operand) (_m:String) (_c:Call):OpF:=fun _ _ _ _=>.stuck 341
def jug (c:Callee):Call->OpF:=Callee.rec (motive:=fun _=>Call->OpF) qi5 jtg qj5 c
def oCall (c:Call):OpF:=jug c.callee c
def oNo:OpF:=fun _ _ _ _=>.stuck 342
def q6m (c:Call):OpF:=fun _ ev _ _ =>
 match c.callee with
 | .value f=>(ev f).asFunc (.stuck 342) fun fn first captured=>.ok (.defer (.call fn (app first (mapN ev c.args.toList)) captured))
 | _=>.stuck 342
def qyw (x:Operand):OpF:=fun _ ev _ _ =>
 match ev x with
 | .iface t v=>.ok (.panic (.iface t v))
 | _=>.stuck 342
def opD (o:Op):OpF :=
 Op.rec (motive:=fun _=>OpF)
  (fun x=>q7v x) (fun x=>q7v x) (fun c a b=>qh2 c a b) (fun e=>qe5 e) (fun e x=>oBox e x) (fun t ps=>qf5 t ps) (fun t n ps=>qjp t n ps)
  (fun t m k x=>qvg t m k x) (fun t a=>jhc t a) (fun t a x=>qg5 t a x) (fun _=>oNo) (fun _=>oNo) (fun x=>oNil x)
  (fun op t x y yt=>oBin op t x y yt) (fun op t x=>oUn op t x) (fun s d x=>jic s d x) (fun t x=>oArr t x) (fun t x=>qh5 t x)
  (fun fn xs ys=>qi2 fn xs ys) (fun t r=>q9p t r) (fun _ _=>oNo) (fun t l c=>qgr t l c) (fun t x lo hi mx=>qvw t x lo hi mx)
  (fun s x f=>qhr s x f) (fun t x f=>qww t x f) (fun t x i=>qpl t x i) (fun t x i=>qxw t x i)
  (fun t x k ok=>qg0 t x k ok) (fun t m k x=>qvg t m k x) (fun t m k=>qdu t m k) (fun t m st x=>qip t m st x) (fun t x=>qb5 t x) (fun x b=>jgc x b) (fun x=>qd5 x) (fun _ _ _ _=>oNo)
  (fun t i=>qcq t i) (fun c=>oCall c) (fun _=>oNo) (fun c=>q6m c) (fun x=>qyw x) (fun _ _=>oNo) (fun _ _ _=>oNo) (fun _ _=>oNo) o
def opS (P:Program) (ev:Operand->SV) (H:List SO) (base:Nat) (o:Oper):R OpRes:=opD o.op P ev H base
end
end
noncomputable section
noncomputable section
variable {α:Type}
inductive SItem where
 | code (c:Code)
 | inBlock (id:Nat)
 | inLoop (body:Code)
 | inScope (body:Code)
 | ops (os:Array Oper) (l:List Oper)
 | inRF (nm:Nat)
 | endRF (nm:Nat)
 | beginRound
structure SF where
 fn:FuncId
 tmps:List SV
 todo:List SItem
 defers:List SD
 roundOf:Option Nat
structure SS where
 frames:List SF
 heap:List SO
inductive Tree where
 | done (v:SV) (H:List SO)
 | stop (s:SS)
 | need (p:Prop) (t:Tree)
 | fork (b:Bool) (t f:Tree)
 | stuck (n:Nat)
 | any (k:(Nat->Nat)->Tree)
def R.tree (r:R α) (k:α->Tree):Tree :=
 R.rec (motive:=fun _=>Tree) (fun a=>k a) (fun p _ ih=>.need p ih) (fun b _ _ t f=>.fork b t f) (fun n=>.stuck n) (fun _ ih=>.any ih) r
def R.treeD (r:R α) (k:α->Tree):Tree :=
 R.rec (motive:=fun _=>Tree) (fun a=>k a) (fun p _ ih=>.need p ih) (fun b _ _ t f=>.fork b t f) (fun n=>.stuck n) (fun _ _=>.stuck 433) r
structure SumRes where
 v:SV
 sets:List (Nat × SO)
 news:List SO
abbrev Summ:=List SV->List SO->Nat->R SumRes
structure Cfg where
 P:Program
 glob:Nat->Option Nat
 sums:FuncId->Option Summ
 stopAt:Option (Nat × Nat)
 dsum:FuncId->Option (Summ × Summ):=fun _=>none
def qgc (H:List SO) (sets:List (Nat × SO)):List SO:=List.rec (motive:=fun _=>List SO->List SO) (fun H=>H) (fun a _ ih H=>ih (setN H a.1 a.2)) sets H
def qyb (H:List SO) (sets:List (Nat × SO)) (news:List SO):List SO:=List.rec (motive:=fun _=>List SO) (qgc H sets) (fun x r _=>app (qgc H sets) (x::r)) news
def qso (id:Nat):List SItem->Option (List SItem)
 | .inBlock id'::k=>if id'=id then some k else qso id k
 | _::k=>qso id k
 | []=>none
def putT (T:List SV) (dst:Option Tmp) (v:SV):List SV:=optC dst T fun d=>setN T d v
def jvg (os:Array Oper) (l:List Oper) (k:List SItem) (fr:SF) (v:SV):Option SF :=
 List.rec (motive:=fun _=>Option SF) none (fun o l _=>some ⟨fr.fn,putT fr.tmps o.dst v,.ops os l::k,fr.defers,fr.roundOf⟩) l
def finRF (nm:Nat) (k:List SItem) (fr:SF) (_v:SV):Option SF:=some ⟨fr.fn,fr.tmps,.endRF nm::k,fr.defers,fr.roundOf⟩
def qto (_k:List SItem) (_fr:SF) (_v:SV):Option SF:=none
def qi0 (x:SItem):List SItem->SF->SV->Option SF :=
 SItem.rec (motive:=fun _=>List SItem->SF->SV->Option SF) (fun _=>qto) (fun _=>qto) (fun _=>qto) (fun _=>qto) jvg finRF (fun _=>qto) qto x
def qvo (t:List SItem) (fr:SF) (v:SV):Option SF:=List.rec (motive:=fun _=>Option SF) none (fun x k _=>qi0 x k fr v) t
def SF.finish (fr:SF) (v:SV):Option SF:=qvo fr.todo fr v
def q7d (P:Program) (f:FuncId) (args:List SV):Option SF :=
 optC (nth P.funcs.toList f) none fun fn=>optC fn.body none fun c =>
  some ⟨f,app args (repN qua (Nat.sub fn.ntmps (lenN args))),[.code c],[],none⟩
def qfj (P:Program) (H:List SO) (T:List SV):List ResultVar->(List SV->R α)->R α
 | [],k=>k []
 | .tmp t::r,k=>qfj P H T r fun l=>k ((nth T t).getD qua::l)
 | .cell a t::r,k=>ptrS ((nth T a).getD qua) fun a=>q21 P H t a fun v=>qfj P H T r fun l=>k (v::l)
def q7m:List SV->SV
 | [v]=>v
 | l=>.tuple l
def qgj (H:List SO) (nm:Nat):Option (LoopState × Option Code × FuncId × List SV × Array Tmp × Code × Code × Nat) :=
 match nth H nm with
 | some (.loop s p f T ps a b d)=>some (s,p,f,T,ps,a,b,d)
 | _=>none
def qj2 (rest:List SF) (H:List SO) (v:SV) (k:SS->Tree):Tree :=
 match rest with
 | []=>.done v H
 | c::cs=>match c.finish v with
   | some c=>k ⟨c::cs,H⟩
   | none=>.stuck 400
def q0j (H:List SO) (rest:List SF) (nm:Nat) (jump:Option Code) (k:SS->Tree):Tree :=
 match qgj H nm,rest with
 | some (_,_,f,T,ps,a,b,d),c::cs =>
   match c.finish (.bool (.lit jump.isNone)) with
   | some c=>k ⟨c::cs,setN H nm (.loop (if jump.isNone then .ready else .done) jump f T ps a b d)⟩
   | none=>.stuck 401
 | _,_=>.stuck 402
def qzw (c:Cfg) (fn:SFn) (args:List SV) (pick:Summ × Summ->Summ) (H:List SO) (k:List SO->Tree):Tree :=
 SFn.rec (motive:=fun _=>Tree) (fun g=>Fn.rec (motive:=fun _=>Tree) (fun f=>optC (c.dsum f) (.stuck 405) fun s=>(pick s args H (lenN H)).tree fun r=>k (qyb H r.sets r.news)) (fun _=>.stuck 405) (fun _ _=>.stuck 405) (fun _ _ _ _=>.stuck 405) (fun _=>.stuck 405) g) (fun _=>.stuck 405) fn
def q2i (c:Cfg):List SD->List SO->(List SO->Tree)->Tree
 | [],H,k=>k H
 | .coll nm::r,H,k=>match nth H nm with
   | some (.deferred (some []))=>q2i c r (setN H nm (.deferred none)) k
   | _=>.stuck 405
 | .call fn args captured::r,H,k=>qzw c fn (app args captured) (fun s=>s.1) H fun H'=>q2i c r H' k
def qir (c:Cfg) (fr:SF) (rest:List SF) (H:List SO) (k:SS->Tree):Tree :=
 match nth c.P.funcs.toList fr.fn with
 | none=>.stuck 403
 | some fn=>(qfj c.P H fr.tmps fn.results.toList fun l=>.ok (q7m l)).tree fun v=>qj2 rest H v k
def q0w (c:Cfg) (v:SV) (H:List SO) (go:SS->Tree) (fr:SF) (rest:List SF) (below:Tree):Tree :=
 match fr.roundOf with
 | some _=>.stuck 413
 | none=>match fr.defers with
   | []=>optC (nth c.P.funcs.toList fr.fn) (.stuck 413) fun _=>below
   | .call fn args captured::ds=>qzw c fn (v::app args captured) (fun s=>s.2) H fun H'=>q2i c ds H' fun H'=>qir c fr rest H' go
   | _=>.stuck 413
def q1w (c:Cfg) (v:SV) (H:List SO) (go:SS->Tree) (frs:List SF):Tree:=List.rec (motive:=fun _=>Tree) (.stuck 413) (fun fr rest ih=>q0w c v H go fr rest ih) frs
def qwo (c:Cfg) (fr:SF) (rest:List SF) (H:List SO) (k:SS->Tree):Tree :=
 match fr.roundOf with
 | some nm=>q0j H rest nm (match fr.todo with | []=>none | _=>some .ret) k
 | none=>q2i c fr.defers H fun H'=>qir c fr rest H' k
def qvk (c:Cfg) (f:FuncId) (args:List SV) (fr:SF) (rest:List SF) (H:List SO) (k:SS->Tree):Tree :=
 match c.sums f with
 | some s=>(s args H (lenN H)).tree fun r =>
   match fr.finish r.v with
   | some fr=>k ⟨fr::rest,qyb H r.sets r.news⟩
   | none=>.stuck 406
 | none=>match q7d c.P f args with
   | some g=>k ⟨g::fr::rest,H⟩
   | none=>.stuck 407
def qxo (T:List SV):List Tmp->List SV->List SV
 | t::ts,v::vs=>qxo (setN T t v) ts vs
 | _,_=>T
def q2w (nm:Nat) (args:List SV) (fr:SF) (rest:List SF) (H:List SO) (k:SS->Tree):Tree :=
 match qgj H nm with
 | some (_,_,f,T,ps,a,b,_) =>
   if lenN args=lenN ps.toList then k ⟨{ fn:=f,tmps:=qxo T ps.toList args,todo:=[.code a,.beginRound,.code b],defers:=[],roundOf:=some nm }::fr::rest,H⟩
   else .stuck 408
 | none=>.stuck 409
def jod (b:Bool) (want:Bool) (T:List SV) (d:Nat) (yes:List SV->Tree) (no:Tree):Tree :=
 .fork b (boolC want (yes (setN T d (.bool (.lit true)))) no) (boolC want no (yes (setN T d (.bool (.lit false)))))
def qjr (b:SB) (want:Bool) (T:List SV) (d:Nat) (yes:List SV->Tree) (no:Tree):Tree :=
 SB.rec (motive:=fun _=>Tree) (fun b=>boolC b (boolC want (yes T) no) (boolC want no (yes T))) (fun b=>jod b want T d yes no) b
def qwk (v:SV) (no:Tree):Tree:=v.asTuple (.stuck 410) fun l=>List.rec (motive:=fun _=>Tree) no (fun _ _ _=>.stuck 410) l
def quh (os:Array Oper) (j:Nat):Option Tmp:=optC (nth os.toList j) none fun o=>o.dst
def wantG (j:Nat) (want:Bool) (os:Array Oper) (T:List SV) (yes:List SV->Tree) (no:Tree):Tree :=
 optC (quh os j) no fun d=>optC (nth T d) (.stuck 410) fun v=>v.asBool (qwk v no) fun b=>qjr b want T d yes no
def qkr (g:Option (Nat × Bool)) (os:Array Oper) (T:List SV) (yes:List SV->Tree) (no:Tree):Tree:=optC g (yes T) fun p=>wantG p.1 p.2 os T yes no
structure Ctx where
 c:Cfg
 fr:SF
 frs:List SF
 H:List SO
 os:Array Oper
 l:List Oper
 k:List SItem
 dst:Option Tmp
 go:SS->Tree
def qk5 (v:SV) (sets:List (Nat × SO)) (news:List SO) (x:Ctx):Tree :=
 x.go ⟨⟨x.fr.fn,putT x.fr.tmps x.dst v,.ops x.os x.l::x.k,x.fr.defers,x.fr.roundOf⟩::x.frs,qyb x.H sets news⟩
def qr8 (f:FuncId) (args:List SV) (x:Ctx):Tree:=qvk x.c f args x.fr x.frs x.H x.go
def qs8 (nm:Nat) (args:List SV) (x:Ctx):Tree:=q2w nm args x.fr x.frs x.H x.go
def qt8 (d:SD) (x:Ctx):Tree:=optC x.fr.roundOf (x.go ⟨⟨x.fr.fn,putT x.fr.tmps x.dst qua,.ops x.os x.l::x.k,d::x.fr.defers,x.fr.roundOf⟩::x.frs,x.H⟩) fun _=>.stuck 412
def qu8 (v:SV) (x:Ctx):Tree:=q1w x.c v x.H x.go (x.fr::x.frs)
def resD (r:OpRes):Ctx->Tree:=OpRes.rec (motive:=fun _=>Ctx->Tree) qk5 qr8 qs8 qt8 qu8 (fun v _=>qk5 v [] []) r
def opT (o:Oper) (l:List Oper) (os:Array Oper) (k:List SItem) (fr:SF) (frs:List SF) (c:Cfg) (H:List SO) (go:SS->Tree):Tree :=
 qkr o.guard os fr.tmps
  (fun T=>(opS c.P (evS c.glob T) H (lenN H) o).tree fun r=>resD r ⟨c,⟨fr.fn,T,fr.todo,fr.defers,fr.roundOf⟩,frs,H,os,l,k,o.dst,go⟩)
  (go ⟨⟨fr.fn,putT fr.tmps o.dst qua,.ops os l::k,fr.defers,fr.roundOf⟩::frs,H⟩)
def q3w (c:Cfg) (f:Operand) (params:Array Tmp) (assign body:Code) (fr:SF) (k:List SItem) (rest:List SF) (H:List SO) (go:SS->Tree):Tree :=
 let base:=lenN H
 match fr.roundOf with
 | none =>
   let nm:=Nat.succ base
   let fr':SF:={ fr with todo:=.inRF nm::k,defers:=.coll base::fr.defers }
   let H':=app H [.deferred (some []),.loop .ready none fr.fn fr.tmps params assign body base]
   match callT (evS c.glob fr.tmps f) [.func (.yield nm) [] []] with
   | .ok (.enter g args)=>qvk c g args fr' rest H' go
   | _=>.stuck 414
 | some l=>match qgj H l with
   | some (_,_,_,_,_,_,_,d) =>
     let fr':SF:={ fr with todo:=.inRF base::k }
     let H':=app H [.loop .ready none fr.fn fr.tmps params assign body d]
     match callT (evS c.glob fr.tmps f) [.func (.yield base) [] []] with
     | .ok (.enter g args)=>qvk c g args fr' rest H' go
     | _=>.stuck 415
   | none=>.stuck 416
abbrev StepF:=List SItem->SF->List SF->Cfg->List SO->(SS->Tree)->Tree
def SF.to (fr:SF) (todo:List SItem):SF:=⟨fr.fn,fr.tmps,todo,fr.defers,fr.roundOf⟩
def popT:StepF:=fun k fr rest _ H go=>go ⟨fr.to k::rest,H⟩
def seqT (a b:Code):StepF:=fun k fr rest _ H go=>go ⟨fr.to (.code a::.code b::k)::rest,H⟩
def condB (v:SB) (a b:Code):StepF :=
 SB.rec (motive:=fun _=>StepF)
  (fun v=>boolC v (fun k fr rest _ H go=>go ⟨fr.to (.code a::k)::rest,H⟩) (fun k fr rest _ H go=>go ⟨fr.to (.code b::k)::rest,H⟩))
  (fun p k fr rest _ H go=>.fork p (go ⟨fr.to (.code a::k)::rest,H⟩) (go ⟨fr.to (.code b::k)::rest,H⟩)) v
def qk2 (x:Operand) (a b:Code):StepF:=fun k fr rest c H go=>(evS c.glob fr.tmps x).asBool (.stuck 417) fun v=>condB v a b k fr rest c H go
def jwg (id:Nat) (body:Code):StepF:=fun k fr rest _ H go=>go ⟨fr.to (.code body::.inBlock id::k)::rest,H⟩
def loopT (body:Code):StepF:=fun k fr rest _ H go=>go ⟨fr.to (.code body::.inLoop body::k)::rest,H⟩
def jxg (body:Code):StepF:=fun k fr rest _ H go=>go ⟨fr.to (.inLoop body::k)::rest,H⟩
def jyg (body:Code):StepF:=fun k fr rest _ H go=>go ⟨fr.to (.code body::.inScope body::k)::rest,H⟩
def ql2 (id:Nat):StepF:=fun k fr rest _ H go =>
 match qso id k with
 | some k'=>go ⟨{ fr with todo:=k' }::rest,H⟩
 | none=>match fr.roundOf with
   | some nm=>q0j H rest nm (some (.exit id)) go
   | none=>.stuck 418
def retT:StepF:=fun _ fr rest c H go=>qwo c fr rest H go
def textT (os:Array Oper):StepF:=fun k fr rest _ H go=>go ⟨fr.to (.ops os os.toList::k)::rest,H⟩
def qmd (acc:List Nat) (es:List Edge):Nat :=
 List.rec (motive:=fun _=>Nat) 0 (fun e _ ih=>boolC (Region.binds .any e) (Nat.lor (Nat.lor (Nat.pow 2 e.on) (optC (nth acc e.on) 0 fun m=>m)) ih) ih) es
def qda (ops:List Oper):List Nat->List Nat:=List.rec (motive:=fun _=>List Nat->List Nat) (fun acc=>acc) (fun o _ ih acc=>ih (app acc [qmd acc o.after.toList])) ops
def qig (m i:Nat):Bool:=Nat.beq (Nat.land m (Nat.sub (Nat.pow 2 i) 1)) (Nat.sub (Nat.pow 2 i) 1)
def qte (ms:List Nat):Nat->Nat:=List.rec (motive:=fun _=>Nat->Nat) (fun _=>0) (fun m _ ih i=>boolC (Nat.beq (ih (Nat.succ i)) 0) (boolC (qig m i) 0 (Nat.succ i)) (ih (Nat.succ i))) ms
def qj0 (x:Operand):List Nat:=Operand.rec (motive:=fun _=>List Nat) (fun t=>[t]) (fun _=>[]) (fun _=>[]) (fun _=>[]) x
def qpb (os:Array Oper) (o:Oper):List Nat :=
 app (optC o.guard [] fun g=>optC (quh os g.1) [] fun d=>[d]) (List.rec (motive:=fun _=>List Nat) [] (fun x _ ih=>app (qj0 x) ih) o.op.operands.toList)
def bitN (m j:Nat):Bool:=Nat.testBit m j
def q1j (m:Nat) (reads:List Nat) (ops:List Oper):Nat->Bool :=
 List.rec (motive:=fun _=>Nat->Bool) (fun _=>true) (fun o _ ih j=>boolC (optC o.dst true fun d=>boolC (memN d reads) (bitN m j) true) (ih (Nat.succ j)) false) ops
def qk0 (i:Nat) (es:List Edge):Bool:=allN (fun e=>boolC (Region.binds .any e) (Nat.blt e.on i) true) es
def q8s (dst:Option Tmp) (ops:List Oper):Bool:=optC dst true fun d=>allN (fun o=>optC o.dst true fun e=>boolC (Nat.beq e d) false true) ops
def qnd (os:Array Oper) (hd:List Oper) (ops:List Oper):List Nat->Nat->Bool :=
 List.rec (motive:=fun _=>List Nat->Nat->Bool) (fun _ _=>true)
  (fun o r ih ms i=>boolC (q1j (List.rec (motive:=fun _=>Nat) 0 (fun m _ _=>m) ms) (qpb os o) hd 0) (boolC (q8s o.dst r) (ih (List.rec (motive:=fun _=>List Nat) [] (fun _ r _=>r) ms) (Nat.succ i)) false) false) ops
def q4e (ms:List Nat):Nat->Bool:=List.rec (motive:=fun _=>Nat->Bool) (fun _=>true) (fun m _ ih i=>boolC (qig m i) (ih (Nat.succ i)) false) ms
def qib (ops:List Oper):Nat->Bool:=List.rec (motive:=fun _=>Nat->Bool) (fun _=>true) (fun o _ ih i=>boolC (qk0 i o.after.toList) (ih (Nat.succ i)) false) ops
structure DCtx where
 c:Cfg
 os:Array Oper
 H:List SO
 fin:List SV->List SO->List (Nat × SO)->Tree
 mL:Option Nat
structure DPos where
 i:Nat
 m:Nat
 last:Bool
def q3i (e:SO):Bool :=
 match e with
 | .own (.lst [_]) _ _=>false
 | .row _=>false
 | _=>true
def qxg (e:SO):SO:=boolC (q3i e) .gone e
def hidN (H:List SO) (n:Nat):Bool:=optC (nth H n) false q3i
def DCtx.atI (x:DCtx) (i:Nat) (last:Bool):List SO:=optC x.mL x.H fun m=>boolC last x.H (boolC (bitN m i) x.H (mapN qxg x.H))
def q8v (m:Nat) (N:List (Nat × SO)):List SO:=mapN (fun p=>boolC (bitN m p.1) p.2 .gone) N
def qyo (H:List SO) (m:Nat) (N:List (Nat × SO)):List SO:=List.rec (motive:=fun _=>List SO) H (fun _ _ _=>app H (q8v m N)) N
def q4w (v:SV) (news:List SO) (p:DPos) (dst:Option Tmp) (T:List SV) (N:List (Nat × SO)) (next:List SV->List (Nat × SO)->Tree):Tree :=
 match news with
 | []=>next (putT T dst v) N
 | [e]=>next (putT T dst v) (app N [(p.i,e)])
 | _=>.stuck 431
def qlr (ms:List Nat) (m last j:Nat):Bool:=boolC (bitN m j) (allN (fun i=>boolC (bitN m i) true (boolC (bitN (optC (nth ms i) 0 fun k=>k) j) false true)) (qra last 0)) false
def qxk (x:DCtx) (p:DPos) (N:List (Nat × SO)) (n:Nat):Bool :=
 boolC (Nat.ble (lenN x.H) n) (optC (nth N (Nat.sub n (lenN x.H))) false fun q=>qlr (qda x.os.toList []) p.m p.i q.1) false
def ql5 (v:SV) (sets:List (Nat × SO)) (news:List SO) (x:DCtx) (p:DPos) (dst:Option Tmp) (T:List SV) (N:List (Nat × SO)):Tree :=
 match news with
 | []=>boolC p.last (optC x.mL (.stuck 435) fun m=>boolC (Nat.beq m p.m) (boolC (allN (fun q=>boolC (hidN x.H q.1) true (qxk x p N q.1)) sets) (x.fin (putT T dst v) (mapN (fun p=>p.2) N) sets) (.stuck 436)) (.stuck 437)) (.stuck 432)
 | _=>.stuck 438
def qql (v:SV) (sets:List (Nat × SO)) (news:List SO) (x:DCtx) (p:DPos) (dst:Option Tmp) (T:List SV) (N:List (Nat × SO)) (next:List SV->List (Nat × SO)->Tree):Tree :=
 match sets with
 | []=>q4w v news p dst T N next
 | _=>ql5 v sets news x p dst T N
def q9s (f:FuncId) (args:List SV) (x:DCtx) (p:DPos) (dst:Option Tmp) (T:List SV) (N:List (Nat × SO)) (next:List SV->List (Nat × SO)->Tree):Tree :=
 match x.c.sums f with
 | some s=>(s args (qyo (x.atI p.i p.last) p.m N) (Nat.add (lenN x.H) (lenN N))).treeD fun r=>qql r.v r.sets r.news x p dst T N next
 | none=>.stuck 433
def drRes (r:OpRes):DCtx->DPos->Option Tmp->List SV->List (Nat × SO)->(List SV->List (Nat × SO)->Tree)->Tree :=
 OpRes.rec (motive:=fun _=>DCtx->DPos->Option Tmp->List SV->List (Nat × SO)->(List SV->List (Nat × SO)->Tree)->Tree) qql q9s (fun _ _ _ _ _ _ _ _=>.stuck 434) (fun _ _ _ _ _ _ _=>.stuck 434) (fun _ _ _ _ _ _ _=>.stuck 434) (fun v _=>qql v [] []) r
def drOp (o:Oper) (x:DCtx) (p:DPos) (T:List SV) (N:List (Nat × SO)) (next:List SV->List (Nat × SO)->Tree):Tree :=
 qkr o.guard x.os T (fun T'=>(opS x.c.P (evS x.c.glob T') (qyo (x.atI p.i p.last) p.m N) (Nat.add (lenN x.H) (lenN N)) o).treeD fun r=>drRes r x p o.dst T' N next) (next (putT T o.dst qua) N)
def q8f (ms:List Nat):Nat:=List.rec (motive:=fun _=>Nat) 0 (fun m _ _=>m) ms
def q1d (ms:List Nat):List Nat:=List.rec (motive:=fun _=>List Nat) [] (fun _ r _=>r) ms
def q9v (ops:List Oper) (x:DCtx):List Nat->Nat->List SV->List (Nat × SO)->Tree :=
 List.rec (motive:=fun _=>List Nat->Nat->List SV->List (Nat × SO)->Tree) (fun _ _ T N=>x.fin T (mapN (fun p=>p.2) N) []) (fun o r ih ms i T N=>drOp o x ⟨i,q8f ms,List.rec (motive:=fun _=>Bool) true (fun _ _ _=>false) r⟩ T N (ih (q1d ms) (Nat.succ i))) ops
def q4h (os:Array Oper) (ops:List Oper) (ms:List Nat) (s:Nat):Bool :=
 boolC (qib ops 0) (boolC (qnd os (qsa ops s) (qsa ops s) ms 0) (q4e (qhb ms s) s) false) false
def jpd (o:Oper):Bool:=match o.op with | .store .. => true | _=>false
def qmr (ops:List Oper) (ms:List Nat) (s:Nat):Option Nat:=optC (nth ops (Nat.pred s)) none fun o=>boolC (jpd o) (nth ms (Nat.pred s)) none
def qm2 (os:Array Oper) (s:Nat) (ms:List Nat):StepF:=fun k fr rest c H go =>
 boolC (q4h os os.toList ms s)
  (q9v (qsa os.toList s) ⟨c,os,H,fun T N sets=>go ⟨⟨fr.fn,T,.ops os (qhb os.toList s)::k,fr.defers,fr.roundOf⟩::rest,qyb (app H N) sets []⟩,qmr os.toList ms s⟩ ms 0 fr.tmps [])
  (.stuck 430)
def intT (P:Program) (t:TypeId):Bool:=optC (P.underlying t) false fun d=>match d with | .int _=>true | _=>false
def jzg (b:Builtin):Bool:=match b with | .len=>false | .min=>false | _=>true
def q4b (P:Program) (o:Oper):Bool :=
 match o.op with
 | .move _=>false | .assign _=>false | .pick .. => false | .build .. => false | .load .. => false | .nilCheck _=>false | .binOp .. => false | .unOp .. => false | .sliceToArrayPointer .. => false | .makeInterface .. => false
 | .makeFunc .. => false | .lookup .. => false | .slice .. => false | .fieldAddr .. => false | .field .. => false | .indexAddr .. => false | .index .. => false | .extract .. => false
 | .convert s d _=>boolC (intT P s) (boolC (intT P d) false true) true
 | .call c=>match c.callee with | .builtin b=>jzg b | _=>true
 | _=>true
def qvh (P:Program) (i m:Nat) (ops:List Oper):List Nat->Nat->Bool :=
 List.rec (motive:=fun _=>List Nat->Nat->Bool) (fun _ _=>true)
  (fun o _ ih ms j=>boolC (boolC (q4b P o) (boolC (Nat.beq j i) true (boolC (Nat.blt j i) (bitN m j) (bitN (q8f ms) i))) true) (ih (q1d ms) (Nat.succ j)) false) ops
structure CCtx where
 hid:SO->Bool
 c:Cfg
 os:Array Oper
 H:List SO
 hd:List Oper
 ms:List Nat
 fin:List SV->List SO->Tree
def q2d (hid:SO->Bool) (e:SO):SO:=boolC (hid e) .gone e
def visN (hid:SO->Bool) (H:List SO) (n:Nat):Bool:=optC (nth H n) false fun e=>boolC (hid e) false true
def u8K (k:IntKind):Bool:=match k with | .u8=>true | _=>false
def jqd (e:SO):Bool:=boolC (q3i e) (match e with | .own (.lst l) _ _=>boolC (allN (fun v=>v.asInt false fun k _=>u8K k) l) false true | _=>true) false
def chNo (v:SV) (sets:List (Nat × SO)) (news:List SO) (dst:Option Tmp) (T:List SV) (H:List SO) (next:List SV->List SO->Tree):Tree :=
 match sets,news with
 | [],[]=>next (putT T dst v) H
 | _,_=>.stuck 443
def qnr (v:SV) (sets:List (Nat × SO)) (news:List SO) (mv:Bool) (x:CCtx) (dst:Option Tmp) (T:List SV) (H:List SO) (next:List SV->List SO->Tree):Tree :=
 boolC mv (boolC (allN (fun q=>boolC (visN x.hid x.H q.1) false true) sets) (next (putT T dst v) (qyb H sets news)) (.stuck 442)) (chNo v sets news dst T H next)
def qat (f:FuncId) (args:List SV) (mv:Bool) (x:CCtx) (G:List SO) (dst:Option Tmp) (T:List SV) (H:List SO) (next:List SV->List SO->Tree):Tree :=
 match x.c.sums f with
 | some s=>(s args G (lenN H)).treeD fun r=>qnr r.v r.sets r.news mv x dst T H next
 | none=>.stuck 433
def chRes (r:OpRes):Bool->CCtx->List SO->Option Tmp->List SV->List SO->(List SV->List SO->Tree)->Tree :=
 OpRes.rec (motive:=fun _=>Bool->CCtx->List SO->Option Tmp->List SV->List SO->(List SV->List SO->Tree)->Tree) (fun v sets news mv x _=>qnr v sets news mv x) qat (fun _ _ _ _ _ _ _ _ _=>.stuck 434) (fun _ _ _ _ _ _ _ _=>.stuck 434) (fun _ _ _ _ _ _ _ _=>.stuck 434) (fun v _ _ _ _ dst T H next=>next (putT T dst v) H) r
def qaw (G:List SO) (mv:Bool) (o:Oper) (x:CCtx) (T:List SV) (H:List SO) (next:List SV->List SO->Tree):Tree :=
 qkr o.guard x.os T (fun T'=>(opS x.c.P (evS x.c.glob T') G (lenN H) o).treeD fun r=>chRes r mv x G o.dst T' H next) (next (putT T o.dst qua) H)
def chOp (o:Oper) (x:CCtx) (i m:Nat) (T:List SV) (H:List SO) (next:List SV->List SO->Tree):Tree :=
 boolC (qvh x.c.P i m x.hd x.ms 0) (qaw H (q4b x.c.P o) o x T H next) (boolC (q4b x.c.P o) (.stuck 440) (qaw (mapN (q2d x.hid) x.H) false o x T H next))
def chP (ops:List Oper) (x:CCtx):List Nat->Nat->List SV->List SO->Tree :=
 List.rec (motive:=fun _=>List Nat->Nat->List SV->List SO->Tree) (fun _ _ T H=>x.fin T H) (fun o _ ih ms i T H=>chOp o x i (q8f ms) T H (ih (q1d ms) (Nat.succ i))) ops
def qor (hid:SO->Bool) (os:Array Oper) (s:Nat) (ms:List Nat):StepF:=fun k fr rest c H go =>
 boolC (q4h os os.toList ms s)
  (chP (qsa os.toList s) ⟨hid,c,os,H,qsa os.toList s,ms,fun T H'=>go ⟨⟨fr.fn,T,.ops os (qhb os.toList s)::k,fr.defers,fr.roundOf⟩::rest,H'⟩⟩ ms 0 fr.tmps H)
  (.stuck 430)
def q5w (o:Oper):Bool:=match o.op with | .call c=>(match c.callee with | .builtin b=>(match b with | .append=>true | _=>false) | _=>false) | _=>false
def qm5 (ops:List Oper):Bool:=List.rec (motive:=fun _=>Bool) false (fun o _ ih=>boolC (q5w o) true ih) ops
def qn2 (v:SV) (sets:List (Nat × SO)) (news:List SO) (x:CCtx) (dst:Option Tmp) (T:List SV) (H:List SO):Tree :=
 match sets,news with
 | [],[e]=>x.fin (putT T dst v) (app H [e])
 | _,_=>.stuck 444
def jjc (r:OpRes):CCtx->Option Tmp->List SV->List SO->Tree :=
 OpRes.rec (motive:=fun _=>CCtx->Option Tmp->List SV->List SO->Tree) qn2 (fun _ _ _ _ _ _=>.stuck 445) (fun _ _ _ _ _ _=>.stuck 445) (fun _ _ _ _ _=>.stuck 445) (fun _ _ _ _ _=>.stuck 445) (fun _ _ _ _ _ _=>.stuck 445) r
def lyOp (o:Oper) (x:CCtx) (T:List SV) (H:List SO):Tree :=
 boolC (optC o.guard true fun _=>false) ((opS x.c.P (evS x.c.glob T) (mapN (q2d x.hid) x.H) (lenN H) o).treeD fun r=>jjc r x o.dst T H) (.stuck 446)
def qpr (hid:SO->Bool) (os:Array Oper) (s:Nat) (ms:List Nat):StepF:=fun k fr rest c H go =>
 boolC (q4h os os.toList ms (Nat.succ s))
  (optC (nth os.toList s) (.stuck 447) fun o=>chP (qsa os.toList s) ⟨hid,c,os,H,qsa os.toList s,ms,fun T H'=>lyOp o ⟨hid,c,os,H,[],[],fun T H'=>go ⟨⟨fr.fn,T,.ops os (qhb os.toList (Nat.succ s))::k,fr.defers,fr.roundOf⟩::rest,H'⟩⟩ T H'⟩ ms 0 fr.tmps H)
  (.stuck 430)
def isRun (s:Summ):Bool:=match s [] [] 0 with | .stuck n=>boolC (Nat.beq n 7777) true (Nat.beq n 7776) | _=>false
def j0g (s:Summ):Bool:=match s [] [] 0 with | .stuck n=>Nat.beq n 7777 | _=>false
def turn1 (c:Cfg) (o:Oper):Bool:=match o.op with | .call cl=>(match cl.callee with | .value f=>(match f with | .func f=>optC (c.sums f) false j0g | _=>false) | _=>false) | _=>false
def jrd (c:Cfg) (ops:List Oper):Bool:=List.rec (motive:=fun _=>Bool) false (fun o _ ih=>boolC (turn1 c o) true ih) ops
def runs1 (c:Cfg) (o:Oper):Bool:=match o.op with | .call cl=>(match cl.callee with | .value f=>(match f with | .func f=>optC (c.sums f) false isRun | _=>false) | _=>false) | _=>false
def qn5 (c:Cfg) (ops:List Oper):Bool:=List.rec (motive:=fun _=>Bool) false (fun o _ ih=>boolC (runs1 c o) true ih) ops
def qrl (P:Program) (os:Array Oper) (s:Nat) (ms:List Nat):Bool:=optC (nth os.toList (Nat.pred s)) false fun o=>boolC (q4b P o) (boolC (qvh P (Nat.pred s) (optC (nth ms (Nat.pred s)) 0 fun m=>m) (qsa os.toList s) ms 0) false true) false
def hidP (c:Cfg) (ops:List Oper) (e:SO):Bool:=boolC (jrd c ops) (jqd e) false
def qdh (f:Nat->Oper->List (List Nat)) (ops:List Oper):Nat->List (List Nat):=List.rec (motive:=fun _=>Nat->List (List Nat)) (fun _=>[]) (fun o _ ih i=>app (f i o) (ih (Nat.succ i))) ops
def qbw (l:List (List Nat)):List (List Nat):=List.rec (motive:=fun _=>List (List Nat)) [[]] (fun _ _ _=>l) l
def rdyE (b:Nat) (o:Oper):Bool:=allN (fun e=>boolC (Region.binds .any e) (bitN b e.on) true) o.after.toList
def qyg (ops:List Oper) (fuel:Nat):Nat->List (List Nat) :=
 Nat.rec (motive:=fun _=>Nat->List (List Nat)) (fun _=>[[]]) (fun _ ih b=>qbw (qdh (fun i o=>boolC (bitN b i) [] (boolC (rdyE b o) (mapN (fun l=>i::l) (ih (Nat.lor b (Nat.pow 2 i)))) [])) ops 0)) fuel
def qwh (f:List Nat->Tree) (l:List (List Nat)):Nat->Nat->Tree :=
 List.rec (motive:=fun _=>Nat->Nat->Tree) (fun _ _=>.stuck 449) (fun a r ih n i=>List.rec (motive:=fun _=>Tree) (f a) (fun _ _ _=>.fork (decide (n=i)) (f a) (ih n (Nat.succ i))) r) l
def opsE (ops:List Oper) (idx:List Nat):List Oper:=List.rec (motive:=fun _=>List Oper) [] (fun i _ ih=>optC (nth ops i) ih fun o=>o::ih) idx
def qo2 (os:Array Oper):StepF:=fun k fr rest _ H go=>.any fun z=>qwh (fun idx=>go ⟨fr.to (.ops os (opsE os.toList idx)::k)::rest,H⟩) (qyg os.toList (lenN os.toList) 0) (z 0) 0
def qqr (ms:List Nat) (w:Nat):Bool:=allN (fun m=>qig m w) (qhb ms w)
def jsd (ms:List Nat) (l:List Nat):Nat:=List.rec (motive:=fun _=>Nat) 0 (fun w _ ih=>boolC (qqr ms w) w ih) l
def qp2 (os:Array Oper) (w:Nat) (ms:List Nat):StepF:=fun k fr rest c H go =>
 boolC (qib os.toList 0) (boolC (qnd os (qsa os.toList w) (qsa os.toList w) ms 0) (boolC (qqr ms w) (boolC (Nat.ble w (lenN os.toList))
  (q9v (qsa os.toList w) ⟨c,os,H,fun T N sets=>.any fun z=>qwh (fun idx=>go ⟨⟨fr.fn,T,.ops os (opsE os.toList idx)::k,fr.defers,fr.roundOf⟩::rest,qyb (app H N) sets []⟩) (qyg os.toList (Nat.sub (lenN os.toList) w) (Nat.sub (Nat.pow 2 w) 1)) (z 0) 0,none⟩ ms 0 fr.tmps [])
  (.stuck 451)) (.stuck 451)) (.stuck 451)) (.stuck 451)
def jkc (os:Array Oper) (s:Nat) (ms:List Nat):StepF:=boolC (q4h os os.toList ms s) (qm2 os s ms) (qp2 os (jsd ms (qra (lenN ms) 1)) ms)
def jlc (os:Array Oper) (s:Nat) (ms:List Nat):StepF:=fun k fr rest c H go =>
 boolC (qn5 c (qsa os.toList s)) (boolC (qrl c.P os s ms) (qpr (hidP c (qsa os.toList s)) os (Nat.pred s) ms k fr rest c H go) (qor (hidP c (qsa os.toList s)) os s ms k fr rest c H go)) (jkc os s ms k fr rest c H go)
def atN (l:List Nat) (i:Nat):Nat:=optC (nth l i) 0 fun m=>m
def qsl (f:Nat->Bool) (n:Nat):Nat:=Nat.rec (motive:=fun _=>Nat) 0 (fun q ih=>boolC (f q) (Nat.lor ih (Nat.pow 2 q)) ih) n
def befP (ms acc:List Nat) (i j:Nat):Bool:=boolC (bitN (atN ms i) j) true (boolC (memN i acc) (memN j acc) false)
def msP (ms acc pi:List Nat):List Nat:=mapN (fun p=>qsl (fun q=>befP ms acc (atN pi p) (atN pi q)) p) (qra (lenN pi) 0)
def qrr (l:List Nat):Bool:=List.rec (motive:=fun _=>Bool) true (fun a r ih=>boolC (memN a r) false ih) l
def eqLN (l:List Nat):List Nat->Bool:=List.rec (motive:=fun _=>List Nat->Bool) (fun r=>List.rec (motive:=fun _=>Bool) true (fun _ _ _=>false) r) (fun a _ ih r=>List.rec (motive:=fun _=>Bool) false (fun b r _=>boolC (Nat.beq a b) (ih r) false) r) l
def qxh (f:Nat->Bool) (l:List Nat):List Nat:=List.rec (motive:=fun _=>List Nat) [] (fun a _ ih=>boolC (f a) (a::ih) ih) l
def piM (ms acc:List Nat) (s:Nat):List Nat :=
 List.rec (motive:=fun _=>List Nat->List Nat) (fun P=>app P (qxh (fun j=>boolC (memN j P) false true) (qra s 0)))
  (fun m _ ih P=>ih (app (app P (qxh (fun j=>boolC (bitN (atN ms m) j) (boolC (memN j P) false (boolC (memN j acc) false true)) false) (qra s 0))) [m])) acc []
def jmc (s:Nat) (acc pi:List Nat):Bool :=
 boolC (Nat.beq (lenN pi) s) (boolC (qrr pi) (boolC (allN (fun i=>memN i pi) (qra s 0)) (eqLN (qxh (fun i=>memN i acc) pi) acc) false) false) false
def okQ (os:Array Oper) (ops:List Oper) (s:Nat) (ms acc pi mp:List Nat):Bool :=
 boolC (qib os.toList 0) (boolC (qnd os ops ops mp 0) (boolC (q4e (qhb ms s) s) (boolC (jmc s acc pi) (allN (fun i=>boolC (Nat.blt i s) (Nat.blt i (lenN os.toList)) false) pi) false) false) false) false
def q6w (hid:SO->Bool) (os:Array Oper) (s:Nat) (ms acc:List Nat):StepF:=fun k fr rest c H go =>
 boolC (okQ os (opsE os.toList (piM ms acc s)) s ms acc (piM ms acc s) (msP ms acc (piM ms acc s)))
  (chP (opsE os.toList (piM ms acc s)) ⟨hid,c,os,H,opsE os.toList (piM ms acc s),msP ms acc (piM ms acc s),fun T H'=>go ⟨⟨fr.fn,T,.ops os (qhb os.toList s)::k,fr.defers,fr.roundOf⟩::rest,H'⟩⟩ (msP ms acc (piM ms acc s)) 0 fr.tmps H)
  (.stuck 430)
def qhj (ms todo:List Nat):List Nat:=qxh (fun m=>allN (fun j=>boolC (bitN (atN ms m) j) false true) todo) todo
def qtl (m:Nat) (l:List Nat):List Nat:=qxh (fun j=>boolC (Nat.beq j m) false true) l
def jnc (f:Nat->Tree) (l:List Nat):Tree:=List.rec (motive:=fun _=>Tree) (.stuck 448) (fun m _ _=>f m) l
def movT (f:List Nat->Tree) (ms:List Nat) (n:Nat):List Nat->List Nat->Tree :=
 Nat.rec (motive:=fun _=>List Nat->List Nat->Tree) (fun _ acc=>f acc) (fun _ ih todo acc=>.any fun z=>qwh (jnc fun m=>ih (qtl m todo) (app acc [m])) (mapN (fun m=>[m]) (qhj ms todo)) (z 0) 0) n
def qyk (P:Program) (os:Array Oper) (s:Nat):List Nat:=qxh (fun i=>optC (nth os.toList i) false (q4b P)) (qra s 0)
def qq2 (hid:SO->Bool) (os:Array Oper) (s:Nat) (ms:List Nat):StepF:=fun k fr rest c H go =>
 boolC (qib os.toList 0) (movT (fun acc=>q6w hid os s ms acc k fr rest c H go) ms (lenN (qyk c.P os s)) (qyk c.P os s) []) (.stuck 430)
def ql0 (ops:List Oper):Bool:=Nat.ble 3 (List.rec (motive:=fun _=>Nat) 0 (fun o _ ih=>boolC (q5w o) (Nat.succ ih) ih) ops)
def i64K (k:IntKind):Bool:=match k with | .i64=>true | _=>false
def jtd (l:List SV):Bool:=match l with | .str _::_=>true | _=>false
def strE (e:SO):Bool:=match e with | .own (.lst l) _ _=>jtd l | _=>false
def j1g (v:SV):Bool:=v.asPtr false fun _=>true
def headA (v:SV) (n:Nat):Bool:=boolC (v.asInt false fun k _=>i64K k) (Nat.ble 8 n) (boolC (j1g v) false true)
def qbt (e:SO):Bool:=boolC (boolC (strE e) true (q3i e)) (match e with | .own (.lst l) _ _=>List.rec (motive:=fun _=>Bool) true (fun v _ _=>headA v (lenN l)) l | .obj _=>false | _=>true) false
def qsr (P:Program) (hd:List Oper) (ms0:List Nat) (ops:List Oper):List Nat->Nat->Bool :=
 List.rec (motive:=fun _=>List Nat->Nat->Bool) (fun _ _=>true) (fun o _ ih ms i=>boolC (boolC (q4b P o) (qvh P i (q8f ms) hd ms0 0) true) (ih (q1d ms) (Nat.succ i)) false) ops
def joc (os:Array Oper) (s:Nat) (ms:List Nat):StepF:=fun k fr rest c H go =>
 boolC (qrl c.P os s ms)
  (boolC (qsr c.P (qsa os.toList (Nat.pred s)) ms (qsa os.toList (Nat.pred s)) ms 0) (qpr qbt os (Nat.pred s) ms k fr rest c H go) (qo2 os k fr rest c H go))
  (boolC (qsr c.P (qsa os.toList s) ms (qsa os.toList s) ms 0) (qor qbt os s ms k fr rest c H go) (qo2 os k fr rest c H go))
def jpc (os:Array Oper) (s:Nat) (ms:List Nat):StepF:=boolC (qm5 (qsa os.toList s)) (boolC (ql0 os.toList) (qq2 qbt os s ms) (joc os s ms)) (jlc os s ms)
def qr2 (os:Array Oper):StepF:=jpc os (qte (qda os.toList []) 0) (qda os.toList [])
def jud (draw:Bool) (os:Array Oper):StepF:=boolC draw (qr2 os) (textT os)
def jvd (f:Operand) (ps:Array Tmp) (a b:Code):StepF:=fun k fr rest c H go=>q3w c f ps a b fr k rest H go
def noT:StepF:=fun _ _ _ _ _ _=>.stuck 419
def jqc (x:Code):StepF :=
 Code.rec (motive:=fun _=>StepF) popT (fun _ os draw=>jud draw os) (fun a b _ _=>seqT a b) (fun x a b _ _=>qk2 x a b) (fun id body _=>jwg id body) (fun body _=>jxg body)
  (fun f ps a b _ _=>jvd f ps a b) (fun id=>ql2 id) (fun body _=>jyg body) (fun _=>popT) (fun _=>noT) retT (fun _=>noT) x
def opsT (os:Array Oper) (l:List Oper):StepF:=List.rec (motive:=fun _=>StepF) popT (fun o l _=>opT o l os) l
def q7w:StepF:=fun k fr rest _ H go =>
 match fr.roundOf with
 | some nm=>match qgj H nm with
   | some (.ready,p,f,T,ps,a,b,d)=>go ⟨{ fr with todo:=k }::rest,setN H nm (.loop .busy p f T ps a b d)⟩
   | _=>.stuck 421
 | none=>.stuck 422
def q8w (nm:Nat):StepF:=fun k fr rest _ H go =>
 match qgj H nm with
 | some (st,p,f,T,ps,a,b,d)=>match st with
   | .busy=>.stuck 423
   | _=>go ⟨{ fr with todo:=match p with | some j=>.code j::k | none=>k }::rest,setN H nm (.loop .exhausted p f T ps a b d)⟩
 | none=>.stuck 424
def jrc (x:SItem):StepF:=SItem.rec (motive:=fun _=>StepF) jqc (fun _=>popT) loopT (fun _=>popT) opsT (fun _=>noT) q8w q7w x
def jsc (t:List SItem):SF->List SF->Cfg->List SO->(SS->Tree)->Tree :=
 List.rec (motive:=fun _=>SF->List SF->Cfg->List SO->(SS->Tree)->Tree) (fun fr rest c H go=>qwo c fr rest H go) (fun x k _=>jrc x k) t
def jwd (frs:List SF):Cfg->List SO->(SS->Tree)->Tree :=
 List.rec (motive:=fun _=>Cfg->List SO->(SS->Tree)->Tree) (fun _ _ _=>.stuck 420) (fun fr rest _=>jsc fr.todo fr rest) frs
def qv8 (t:List SItem) (b:Bool):Bool:=List.rec (motive:=fun _=>Bool) false (fun x _ _=>SItem.rec (motive:=fun _=>Bool) (fun _=>false) (fun _=>false) (fun _=>b) (fun _=>false) (fun _ _=>false) (fun _=>false) (fun _=>false) false x) t
def stopN (n:Nat × Nat) (frs:List SF):Bool:=List.rec (motive:=fun _=>Bool) false (fun fr _ _=>qv8 fr.todo (boolC (Nat.beq (lenN frs) n.1) (boolC (Nat.beq n.2 0) true (Nat.beq (lenN fr.todo) n.2)) false)) frs
def qs2 (c:Cfg) (s:SS):Bool:=optC c.stopAt false fun n=>stopN n s.frames
def qcw (c:Cfg) (s:SS) (go:SS->Tree):Tree:=jwd s.frames c s.heap go
def simS (c:Cfg) (s:SS) (ih:SS->Tree) (b:Bool):Tree:=boolC b (.stop s) (qcw c s ih)
def sim (c:Cfg) (n:Nat):SS->Tree :=
 Nat.rec (motive:=fun _=>SS->Tree) (fun s=>.stop s) (fun _ ih s=>simS c s ih (qs2 c s)) n
def sim1 (c:Cfg) (n:Nat) (s:SS):Tree:=qcw c s (sim c n)
end
end
noncomputable section
variable {α:Type}
theorem qca (l:List α) (n:Nat):nth l n=l[n]? := by
 induction l generalizing n with
 | nil=>rfl
 | cons a t ih=>cases n with
   | zero=>rfl
   | succ n=>exact ih n
theorem que (l:List α) (n:Nat) (v:α):setN l n v=l.set n v:=by
 induction l generalizing n with
 | nil=>rfl
 | cons a t ih=>cases n with
   | zero=>rfl
   | succ n=>exact congrArg (a :: ·) (ih n)
theorem q1a (l r:List α):app l r=l++r:=by
 induction l with
 | nil=>rfl
 | cons a t ih=>exact congrArg (a :: ·) ih
theorem qoc (l:List α) (n:Nat):qsa l n=l.take n:=by
 induction l generalizing n with
 | nil=>simp [qsa]
 | cons a t ih=>cases n with
   | zero=>rfl
   | succ n=>exact congrArg (a :: ·) (ih n)
theorem qdd (l:List α) (n:Nat):qhb l n=l.drop n:=by
 induction l generalizing n with
 | nil=>simp [qhb]
 | cons a t ih=>cases n with
   | zero=>rfl
   | succ n=>exact ih n
theorem qja {β:Type} (f:α->β) (l:List α):mapN f l=l.map f:=by
 induction l with
 | nil=>rfl
 | cons a t ih=>exact congrArg (f a :: ·) ih
theorem qha (l:List α):lenN l=l.length:=by
 induction l with
 | nil=>rfl
 | cons a t ih=>exact congrArg Nat.succ ih
theorem q9c (a:α) (n:Nat):repN a n=List.replicate n a:=by
 induction n with
 | zero=>rfl
 | succ n ih=>exact congrArg (a :: ·) ih
theorem qya (n k:Nat):qra n k=List.range' k n:=by
 induction n generalizing k with
 | zero=>rfl
 | succ n ih=>exact congrArg (k :: ·) (ih (k+1))
theorem qt2 (l v:List α):qth l 0 v=v.take l.length++l.drop v.length:=by
 induction l generalizing v with
 | nil=>simp [qth]
 | cons a t ih=>cases v with
   | nil=>rfl
   | cons x v=>exact congrArg (x :: ·) (ih v)
theorem qdq (l:List α) (i:Nat) (v:List α) (h:i+v.length<=l.length):qth l i v=l.take i++v++l.drop (i+v.length):=by
 induction l generalizing i with
 | nil=>simp at h; obtain ⟨rfl,rfl⟩:=h; simp [qth]
 | cons a t ih=>cases i with
   | zero=>rw [qt2,List.take_of_length_le (by simpa using h)]; simp
   | succ i =>
     have:=ih i (by simp at h; omega)
     show a::qth t i v=_
     rw [this,show i+1+v.length=i+v.length+1 from by omega]; rfl
theorem q2j (f:α->Bool) (l:List α) (h:allN f l=true):∀ x∈l,f x=true:=by
 induction l with
 | nil=>simp
 | cons a t ih =>
   have h':boolC (f a) (allN f t) false=true:=h
   cases hf:f a with
   | true=>rw [hf] at h'; intro x hx; cases hx with
     | head=>exact hf
     | tail _ hx=>exact ih h' x hx
   | false=>rw [hf] at h'; cases h'
def Val.le (β β':Val):Prop:=∀ n l,β n=some l->β' n=some l
theorem Val.le_refl (β:Val):β.le β:=fun _ _ h=>h
theorem Val.le_trans {a b c:Val} (h:a.le b) (k:b.le c):a.le c:=fun n l e=>k n l (h n l e)
theorem SA.den_mono {β β':Val} (hl:β.le β') {a:SA} {x:Addr} (h:a.den β=some x):a.den β'=some x:=by
 unfold SA.den at *
 cases hb:β a.nm with
 | none=>simp [hb] at h
 | some l=>rw [hb] at h; rw [hl _ _ hb]; exact h
theorem SC.den_mono {β β':Val} (hl:β.le β') {a:SC} {x:Nat} (h:a.den β=some x):a.den β'=some x:=by
 cases a with
 | lit n=>exact h
 | sym n=>exact h
 | rest nm k =>
   simp only [SC.den] at *
   cases hb:β nm with
   | none=>simp [hb] at h
   | some l=>rw [hb] at h; rw [hl _ _ hb]; exact h
theorem SFn.den_mono {β β':Val} (hl:β.le β') {a:SFn} {x:Fn} (h:a.den β=some x):a.den β'=some x:=by
 cases a with
 | fn n=>exact h
 | yield nm =>
   simp only [SFn.den] at *
   cases hb:β nm with
   | none=>simp [hb] at h
   | some l=>rw [hb] at h; rw [hl _ _ hb]; exact h
theorem q5h {x:Addr} {l c:Nat} {v:Value}:q3m x l c=some v↔l<=c/\.slice (some x) l c=v:=by
 unfold q3m
 split
 . rename_i h; simp [h]
 . rename_i h; simp [h]
theorem den_slice {β:Val} {a:SA} {l:SN} {c:SC} {v:Value}:(SV.slice a l c).den β=some v↔∃ A C,a.den β=some A/\c.den β=some C/\l.den<=C/\.slice (some A) l.den C=v:=by
 simp only [SV.den,Option.bind_eq_some_iff,q5h]
 constructor
 . rintro ⟨A,hA,C,hC,hle,rfl⟩; exact ⟨A,C,hA,hC,hle,rfl⟩
 . rintro ⟨A,C,hA,hC,hle,rfl⟩; exact ⟨A,hA,C,hC,hle,rfl⟩
theorem qij {x:Addr} {n l c:Nat} {v:Value}:qr1 x n l c=some v↔l<=c/\.slice (some (if c=0 then x else x.add n)) l c=v:=by
 unfold qr1
 split
 . rename_i h; simp [h]
 . rename_i h; simp [h]
theorem qdc {β:Val} {a:SA} {n l:SN} {c:SC} {v:Value}:(SV.tail a n l c).den β=some v↔∃ A C,a.den β=some A/\c.den β=some C/\l.den<=C/\.slice (some (if C=0 then A else A.add n.den)) l.den C=v:=by
 simp only [SV.den,Option.bind_eq_some_iff,qij]
 constructor
 . rintro ⟨A,hA,C,hC,hle,rfl⟩; exact ⟨A,C,hA,hC,hle,rfl⟩
 . rintro ⟨A,C,hA,hC,hle,rfl⟩; exact ⟨A,hA,C,hC,hle,rfl⟩
mutual
theorem SV.den_mono {β β':Val} (hl:β.le β'):(v:SV)->{x:Value}->v.den β=some x->v.den β'=some x
 | .int _ _,_,h=>h
 | .bool _,_,h=>h
 | .str _,_,h=>h
 | .ptr a,x,h=>by
   simp only [SV.den,Option.map_eq_some_iff] at *
   obtain ⟨y,hy,rfl⟩:=h
   exact ⟨y,SA.den_mono hl hy,rfl⟩
 | .nilPtr,_,h=>h
 | .slice a n c,x,h=>by
   rw [den_slice] at *
   obtain ⟨y,z,hy,hz,hle,rfl⟩:=h
   exact ⟨y,z,SA.den_mono hl hy,SC.den_mono hl hz,hle,rfl⟩
 | .nilSlice,_,h=>h
 | .map nm,x,h=>by
   simp only [SV.den,Option.map_eq_some_iff] at *
   obtain ⟨y,hy,rfl⟩:=h
   exact ⟨y,hl _ _ hy,rfl⟩
 | .nilMap,_,h=>h
 | .func f xs ys,x,h=>by
   simp only [SV.den,Option.bind_eq_some_iff,Option.map_eq_some_iff] at *
   obtain ⟨g,hg,az,has,bs,hbs,rfl⟩:=h
   exact ⟨g,SFn.den_mono hl hg,az,SV.denL_mono hl xs has,bs,SV.denL_mono hl ys hbs,rfl⟩
 | .nilFunc,_,h=>h
 | .iface t v,x,h=>by
   simp only [SV.den,Option.map_eq_some_iff] at *
   obtain ⟨y,hy,rfl⟩:=h
   exact ⟨y,SV.den_mono hl v hy,rfl⟩
 | .nilIface,_,h=>h
 | .agg l,x,h=>by
   simp only [SV.den,Option.map_eq_some_iff] at *
   obtain ⟨y,hy,rfl⟩:=h
   exact ⟨y,SV.denL_mono hl l hy,rfl⟩
 | .tuple l,x,h=>by
   simp only [SV.den,Option.map_eq_some_iff] at *
   obtain ⟨y,hy,rfl⟩:=h
   exact ⟨y,SV.denL_mono hl l hy,rfl⟩
 | .val _,_,h=>h
 | .tail a n l c,x,h=>by
   rw [qdc] at *
   obtain ⟨y,z,hy,hz,hle,rfl⟩:=h
   exact ⟨y,z,SA.den_mono hl hy,SC.den_mono hl hz,hle,rfl⟩
theorem SV.denL_mono {β β':Val} (hl:β.le β'):(l:List SV)->{x:List Value}->SV.denL β l=some x->SV.denL β' l=some x
 | [],_,h=>h
 | v::l,x,h=>by
   simp only [SV.denL,Option.bind_eq_some_iff,Option.map_eq_some_iff] at *
   obtain ⟨y,hy,z,hz,rfl⟩:=h
   exact ⟨y,SV.den_mono hl v hy,z,SV.denL_mono hl l hz,rfl⟩
end
theorem denL_nil {β:Val} {xs:List Value}:SV.denL β []=some xs↔xs=[]:=by simp [SV.denL,eq_comm]
theorem denL_cons {β:Val} {v:SV} {l:List SV} {xs:List Value}:SV.denL β (v::l)=some xs↔∃ y ys,v.den β=some y/\SV.denL β l=some ys/\xs=y::ys:=by
 simp only [SV.denL,Option.bind_eq_some_iff,Option.map_eq_some_iff]
 constructor
 . rintro ⟨y,hy,ys,hys,rfl⟩; exact ⟨y,ys,hy,hys,rfl⟩
 . rintro ⟨y,ys,hy,hys,rfl⟩; exact ⟨y,hy,ys,hys,rfl⟩
theorem qva {β:Val} {l:List SV} {xs:List Value} (h:SV.denL β l=some xs):xs.length=l.length:=by
 induction l generalizing xs with
 | nil=>rw [denL_nil] at h; subst h; rfl
 | cons v l ih=>obtain ⟨y,ys,_,hl,rfl⟩:=denL_cons.1 h; simp [ih hl]
theorem qed {β:Val} {l:List SV} {xs:List Value} (h:SV.denL β l=some xs) {n:Nat} {v:SV} (hv:l[n]? = some v):∃ x,xs[n]? = some x/\v.den β=some x:=by
 induction l generalizing xs n with
 | nil=>simp at hv
 | cons a l ih =>
   obtain ⟨y,ys,hy,hl,rfl⟩:=denL_cons.1 h
   cases n with
   | zero=>simp at hv; subst hv; exact ⟨y,rfl,hy⟩
   | succ n=>simp at hv; obtain ⟨x,hx,hd⟩:=ih hl hv; exact ⟨x,by simpa using hx,hd⟩
theorem qeq {β:Val} {l:List SV} {xs:List Value} (h:SV.denL β l=some xs) {n:Nat} {v:SV} {x:Value} (hv:v.den β=some x):SV.denL β (l.set n v)=some (xs.set n x):=by
 induction l generalizing xs n with
 | nil=>rw [denL_nil] at h; subst h; rfl
 | cons a l ih =>
   obtain ⟨y,ys,hy,hl,rfl⟩:=denL_cons.1 h
   cases n with
   | zero=>exact denL_cons.2 ⟨x,ys,hv,hl,rfl⟩
   | succ n=>exact denL_cons.2 ⟨y,ys.set n x,hy,ih hl,rfl⟩
theorem qyd {β:Val} {l r:List SV} {xs ys:List Value} (h:SV.denL β l=some xs) (k:SV.denL β r=some ys):SV.denL β (l++r)=some (xs++ys):=by
 induction l generalizing xs with
 | nil=>rw [denL_nil] at h; subst h; exact k
 | cons a l ih =>
   obtain ⟨y,zs,hy,hl,rfl⟩:=denL_cons.1 h
   exact denL_cons.2 ⟨y,zs++ys,hy,ih hl,rfl⟩
theorem qjg {β:Val} {l:List SV} {xs:List Value} (h:SV.denL β l=some xs) (n:Nat):SV.denL β (l.take n)=some (xs.take n):=by
 induction l generalizing xs n with
 | nil=>rw [denL_nil] at h; subst h; simp [SV.denL]
 | cons a l ih =>
   obtain ⟨y,zs,hy,hl,rfl⟩:=denL_cons.1 h
   cases n with
   | zero=>simp [SV.denL]
   | succ n=>exact denL_cons.2 ⟨y,_,hy,ih hl n,rfl⟩
theorem q6h {β:Val} {l:List SV} {xs:List Value} (h:SV.denL β l=some xs) (n:Nat):SV.denL β (l.drop n)=some (xs.drop n):=by
 induction l generalizing xs n with
 | nil=>rw [denL_nil] at h; subst h; simp [SV.denL]
 | cons a l ih =>
   obtain ⟨y,zs,hy,hl,rfl⟩:=denL_cons.1 h
   cases n with
   | zero=>exact h
   | succ n=>exact ih hl n
theorem qkg {β:Val} {l:List SV} {xs:List Value} (hn:xs.length=l.length) (h:∀ (i:Nat) (v:SV),l[i]? = some v->∃ x,xs[i]? = some x/\v.den β=some x):SV.denL β l=some xs:=by
 induction l generalizing xs with
 | nil=>simp at hn; subst hn; rfl
 | cons a l ih =>
   cases xs with
   | nil=>simp at hn
   | cons y ys =>
     obtain ⟨x,hx,hd⟩:=h 0 a rfl
     simp at hx; subst hx
     exact denL_cons.2 ⟨y,ys,hd,ih (by simpa using hn) (fun i v hv=>h (i+1) v hv),rfl⟩
theorem qct {β:Val} {v:SV} {x:Value} (h:v.den β=some x) (n:Nat):SV.denL β (List.replicate n v)=some (List.replicate n x):=by
 induction n with
 | zero=>rfl
 | succ n ih=>exact denL_cons.2 ⟨x,_,h,ih,rfl⟩
def CellsRel (β:Val):Cells->List Value->Prop
 | .lst l,vs=>SV.denL β l=some vs
 | .fn f n,vs=>vs.length=n/\∀ i x,vs[i]? = some x->(f i).den β=some x
 | .raw V n,vs=>vs.length=n/\∀ (i:Nat) (x:Value),vs[i]? = some x->x=V i
theorem CellsRel.mono {β β':Val} (hl:β.le β') {c:Cells} {vs:List Value} (h:CellsRel β c vs):CellsRel β' c vs:=by
 cases c with
 | lst l=>exact SV.denL_mono hl l h
 | fn f n=>exact ⟨h.1,fun i x hx=>SV.den_mono hl _ (h.2 i x hx)⟩
 | raw V n=>exact h
def SD.den (β:Val):SD->Option Deferred
 | .coll nm=>(β nm).map fun l=>{ target:=.collected l.blk,args := #[] }
 | .call f xs ys=>(f.den β).bind fun f=>(SV.denL β xs).bind fun xs=>(SV.denL β ys).map fun ys=>{ target:=.fn f ys.toArray,args:=xs.toArray }
def SD.denL (β:Val):List SD->Option (List Deferred)
 | []=>some []
 | d::r=>(d.den β).bind fun d=>(SD.denL β r).map fun r=>d::r
theorem SD.den_mono {β β':Val} (hl:β.le β') {d:SD} {x:Deferred} (h:d.den β=some x):d.den β'=some x:=by
 cases d with
 | coll nm =>
   simp only [SD.den,Option.map_eq_some_iff] at *
   obtain ⟨y,hy,rfl⟩:=h
   exact ⟨y,hl _ _ hy,rfl⟩
 | call f xs ys =>
   simp only [SD.den,Option.bind_eq_some_iff,Option.map_eq_some_iff] at *
   obtain ⟨g,hg,az,has,bs,hbs,rfl⟩:=h
   exact ⟨g,SFn.den_mono hl hg,az,SV.denL_mono hl xs has,bs,SV.denL_mono hl ys hbs,rfl⟩
theorem SD.denL_mono {β β':Val} (hl:β.le β') {l:List SD} {x:List Deferred} (h:SD.denL β l=some x):SD.denL β' l=some x:=by
 induction l generalizing x with
 | nil=>exact h
 | cons d l ih =>
   simp only [SD.denL,Option.bind_eq_some_iff,Option.map_eq_some_iff] at *
   obtain ⟨y,hy,z,hz,rfl⟩:=h
   exact ⟨y,SD.den_mono hl hy,z,ih hz,rfl⟩
def SD.denO (β:Val):Option (List SD)->Option (Option (List Deferred))
 | none=>some none
 | some l=>(SD.denL β l).map some
def qma (β:Val):List (SV × SV × Nat)->Option (List MapEntry)
 | []=>some []
 | e::r=>(e.1.den β).bind fun k=>(e.2.1.den β).bind fun v=>(qma β r).map fun r=>{ key:=k,val:=v,born:=e.2.2 }::r
def SObj.den (β:Val):SObj->Option Obj
 | .map es clock=>(qma β es).map fun vs=>.map vs.toArray clock
 | .iter none since seen last=>some (.mapIter none since seen.toArray last)
 | .iter (some m) since seen last=>(β m).map fun l=>.mapIter (some l.blk) since seen.toArray last
 | .str s pos=>some (.stringIter s.den pos)
 | .amap ks vs es clock=>@ite _ (∀ e∈es,ks.fit e.key/\vs.fit e.val) (Classical.propDecidable _) (some (.map es.toArray clock)) none
theorem SObj.amap_den {β:Val} {ks vs:MSh} {es:List MapEntry} {c:Nat} {x:Obj}:(SObj.amap ks vs es c).den β=some x↔(∀ e∈es,ks.fit e.key/\vs.fit e.val)/\x=.map es.toArray c:=by
 show @ite _ (∀ e∈es,ks.fit e.key/\vs.fit e.val) (Classical.propDecidable _) (some (.map es.toArray c)) none=some x↔_
 by_cases h:∀ e∈es,ks.fit e.key/\vs.fit e.val
 . rw [if_pos h]
   exact ⟨fun h'=>⟨h,(Option.some.inj h').symm⟩,fun h'=>by rw [h'.2]⟩
 . rw [if_neg h]
   exact ⟨fun h'=>(by cases h'),fun h'=>absurd h'.1 h⟩
theorem q8m {β β':Val} (hl:β.le β'):∀ {es:List (SV × SV × Nat)} {vs:List MapEntry},qma β es=some vs->qma β' es=some vs
 | [],_,h=>h
 | e::r,vs,h=>by
   simp only [qma,Option.bind_eq_some_iff,Option.map_eq_some_iff] at *
   obtain ⟨k,hk,v,hv,rs,hr,rfl⟩:=h
   exact ⟨k,SV.den_mono hl _ hk,v,SV.den_mono hl _ hv,rs,q8m hl hr,rfl⟩
theorem SObj.den_mono {β β':Val} (hl:β.le β') {o:SObj} {x:Obj} (h:o.den β=some x):o.den β'=some x:=by
 cases o with
 | map es clock =>
   simp only [SObj.den,Option.map_eq_some_iff] at *
   obtain ⟨vs,hv,rfl⟩:=h
   exact ⟨vs,q8m hl hv,rfl⟩
 | iter m since seen last =>
   cases m with
   | none=>exact h
   | some m =>
     simp only [SObj.den,Option.map_eq_some_iff] at *
     obtain ⟨l,hm,rfl⟩:=h
     exact ⟨l,hl _ _ hm,rfl⟩
 | str s pos=>exact h
 | amap=>exact h
def Unfz (lo hi n:Nat):Prop:=lo=hi\/n<=lo
theorem Unfz.at {lo hi n:Nat} (h:Unfz lo hi n):∀ i,i<n->¬ (lo<=i/\i<hi):=by
 intro i hi'
 rcases h with h | h <;> omega
@[simp] theorem unfz_zero (n:Nat):Unfz 0 0 n:=.inl rfl
def OwnRel (P:Program) (β:Val) (w:World) (n:Nat):SO->Prop
 | .own c whole elem=>∃ l vs rest lo hi,β n=some l/\l.off=0/\CellsRel β c vs/\w.heap[l.blk]? = some (.cells (vs++rest).toArray elem (lo,hi)) /\
   Unfz lo hi (vs++rest).length/\(whole=true->rest=[])/\(∀ i,P.info? elem=some i->l.cap * i.size<=(vs++rest).length)
 | .row _=>False
 | .loop s p f T ps a b d=>∃ l ld Ts,β n=some l/\β d=some ld/\SV.denL β T=some Ts /\
   w.heap[l.blk]? = some (.loop { state:=s,pending:=p,fn:=f,tmps:=Ts.toArray,params:=ps,assign:=a,body:=b,defers:=ld.blk })
 | .deferred ds=>∃ l ds',β n=some l/\SD.denO β ds=some ds'/\w.heap[l.blk]? = some (.deferred ds')
 | .gone=>True
 | .obj o=>∃ l x,β n=some l/\l.off=0/\o.den β=some x/\w.heap[l.blk]? = some x
def SO.owned:SO->Bool
 | .row _=>false
 | .gone=>false
 | _=>true
def q9w (O:Nat->Prop) (w0:World) (β:Val) (n:Nat) (c:Cells):Prop :=
 ∃ l vs,β n=some l/\CellsRel β c vs/\∀ i x,vs[i]? = some x->l.blk<w0.heap.size/\¬ O l.blk/\w0.cell? ⟨l.blk,l.off+i,none⟩=some x
def EntryRel (P:Program) (O:Nat->Prop) (w0:World) (β:Val) (w:World) (n:Nat) (e:SO):Prop :=
 match e with
 | .row c=>q9w O w0 β n c
 | e=>OwnRel P β w n e
theorem EntryRel.toOwn {P:Program} {O:Nat->Prop} {w0:World} {β:Val} {w:World} {n:Nat} {e:SO} (h:EntryRel P O w0 β w n e) (ho:e.owned=true):OwnRel P β w n e:=by
 cases e with
 | row c=>cases ho
 | own=>exact h
 | loop=>exact h
 | deferred=>exact h
 | gone=>exact h
 | obj=>exact h
structure Keep (O:Nat->Prop) (w w':World):Prop where
 os:w'.os=w.os
 tape:w'.tape=w.tape
 output:w'.output=w.output
 drawn:w.drawn<=w'.drawn
 size:w.heap.size<=w'.heap.size
 block:∀ k,k<w.heap.size->¬ O k->w'.heap[k]? = w.heap[k]?
structure HeapRel0 (P:Program) (O:Nat->Prop) (w0:World) (β:Val) (H:List SO) (w:World):Prop where
 entries:∀ n e,H[n]? = some e->EntryRel P O w0 β w n e
 sep:∀ n m e e' l l',H[n]? = some e->H[m]? = some e'->e.owned=true->e'.owned=true->n≠m->β n=some l->β m=some l'->l.blk≠l'.blk
 fresh:∀ n e l,H[n]? = some e->e.owned=true->β n=some l->w0.heap.size<=l.blk\/O l.blk
 keep:Keep O w0 w
structure HeapRel (P:Program) (O:Nat->Prop) (w0:World) (β:Val) (H:List SO) (w:World):Prop extends HeapRel0 P O w0 β H w where
 bound:∀ n,H.length<=n->β n=none
theorem OwnRel.lt {P:Program} {β:Val} {w:World} {n:Nat} {e:SO} {l:Loc} (h:OwnRel P β w n e) (ho:e.owned=true) (hl:β n=some l):l.blk<w.heap.size:=by
 cases e with
 | own c wh el =>
   obtain ⟨l',vs,rest,lo,hi,hb,_,_,hh,_⟩:=h
   rw [hl] at hb; cases hb
   exact (Array.getElem?_eq_some_iff.1 hh).1
 | row c=>cases ho
 | loop =>
   obtain ⟨l',ld,Ts,hb,_,_,hh⟩:=h
   rw [hl] at hb; cases hb
   exact (Array.getElem?_eq_some_iff.1 hh).1
 | deferred ds =>
   obtain ⟨l',ds',hb,_,hh⟩:=h
   rw [hl] at hb; cases hb
   exact (Array.getElem?_eq_some_iff.1 hh).1
 | gone=>cases ho
 | obj o =>
   obtain ⟨l',x,hb,_,_,hh⟩:=h
   rw [hl] at hb; cases hb
   exact (Array.getElem?_eq_some_iff.1 hh).1
theorem OwnRel.kept {P:Program} {β β':Val} {w w':World} {n:Nat} {e:SO} (h:OwnRel P β w n e) (hle:β.le β')
  (hb:e.owned=true->∀ l,β n=some l->w'.heap[l.blk]? = w.heap[l.blk]?):OwnRel P β' w' n e:=by
 cases e with
 | own c wh el =>
   obtain ⟨l,vs,rest,lo,hi,hl,h0,hc,hh,hfz,hw,hcap⟩:=h
   exact ⟨l,vs,rest,lo,hi,hle _ _ hl,h0,hc.mono hle,(hb rfl l hl).trans hh,hfz,hw,hcap⟩
 | row c=>exact h
 | loop =>
   obtain ⟨l,ld,Ts,hl,hd,hT,hh⟩:=h
   exact ⟨l,ld,Ts,hle _ _ hl,hle _ _ hd,SV.denL_mono hle _ hT,(hb rfl l hl).trans hh⟩
 | deferred ds =>
   obtain ⟨l,ds',hl,hd,hh⟩:=h
   refine ⟨l,ds',hle _ _ hl,?_,(hb rfl l hl).trans hh⟩
   cases ds with
   | none=>exact hd
   | some x =>
     simp only [SD.denO,Option.map_eq_some_iff] at *
     obtain ⟨y,hy,rfl⟩:=hd
     exact ⟨y,SD.denL_mono hle hy,rfl⟩
 | gone=>trivial
 | obj o =>
   obtain ⟨l,x,hl,h0,hd,hh⟩:=h
   exact ⟨l,x,hle _ _ hl,h0,SObj.den_mono hle hd,(hb rfl l hl).trans hh⟩
structure Eff (P:Program) (β:Val) (w:World) (base:Nat) (sets:List (Nat × SO)) (news:List SO) (β':Val) (w':World):Prop where
 le:β.le β'
 os:w'.os=w.os
 tape:w'.tape=w.tape
 output:w'.output=w.output
 drawn:w.drawn<=w'.drawn
 size:w.heap.size<=w'.heap.size
 dom:∀ n,(n<base\/base+news.length<=n)->β' n=β n
 frame:∀ b,b<w.heap.size->(∀ n e l,(n,e)∈sets->β n=some l->l.blk≠b)->w'.heap[b]? = w.heap[b]?
 one:∀ n e e',(n,e)∈sets->(n,e')∈sets->e=e'
 turned:∀ n e,(n,e)∈sets->OwnRel P β' w' n e
 made:∀ i e,news[i]? = some e->e.owned=true/\OwnRel P β' w' (base+i) e /\
  ∃ l,β' (base+i)=some l/\(w.heap.size<=l.blk\/∃ n l',(n,SO.gone)∈sets/\β n=some l'/\l'.blk=l.blk)
 apart:∀ i j l l',i≠j->i<news.length->j<news.length->β' (base+i)=some l->β' (base+j)=some l'->l.blk≠l'.blk
theorem qgf (H:List SO) (a:Nat × SO) (r:List (Nat × SO)):qgc H (a::r)=qgc (H.set a.1 a.2) r:=by
 show qgc (setN H a.1 a.2) r=_
 rw [que]
theorem q8d (sets:List (Nat × SO)):∀ H:List SO,(qgc H sets).length=H.length:=by
 induction sets with
 | nil=>intro H; rfl
 | cons a r ih=>intro H; rw [qgf,ih]; simp
theorem qzf (sets:List (Nat × SO)):∀ (H:List SO) (n:Nat),(∀ e,(n,e) ∉ sets)->(qgc H sets)[n]? = H[n]? := by
 induction sets with
 | nil=>intro H n _; rfl
 | cons a r ih =>
   intro H n h
   rw [qgf,ih _ _ (fun e he=>h e (List.mem_cons_of_mem _ he)),List.getElem?_set_ne]
   intro e; exact h a.2 (by rw [← e]; exact List.mem_cons_self)
theorem qw8 (sets:List (Nat × SO)):∀ (H:List SO) (n:Nat) (e:SO),(qgc H sets)[n]? = some e->H[n]? = some e/\(∀ e,(n,e) ∉ sets)\/(n,e)∈sets:=by
 induction sets with
 | nil=>intro H n e h; exact .inl ⟨h,by simp⟩
 | cons a r ih =>
   intro H n e h
   rw [qgf] at h
   rcases ih _ n e h with ⟨h',hn⟩ | h'
   . by_cases ha:a.1=n
     . subst ha
       right
       have:e=a.2:=by
        rw [List.getElem?_set] at h'
        simp at h'; exact h'.2.symm
       rw [this]; exact List.mem_cons_self
     . left
       rw [List.getElem?_set_ne ha] at h'
       refine ⟨h',fun e' he' => ?_⟩
       cases he' with
       | head=>exact ha rfl
       | tail _ hm=>exact hn e' hm
   . exact .inr (List.mem_cons_of_mem _ h')
theorem qhc (H:List SO) (sets:List (Nat × SO)) (news:List SO):qyb H sets news=qgc H sets++news:=by
 cases news with
 | nil=>simp; rfl
 | cons x r=>exact q1a _ _
theorem qqi {H:List SO} {n:Nat} {e:SO} (h:H[n]? = some e):qgc H [(n,e)]=H:=by
 rw [qgf]
 show H.set n e=H
 obtain ⟨hn,rfl⟩:=List.getElem?_eq_some_iff.1 h
 exact List.set_getElem_self hn
theorem Eff.rebase {P:Program} {β β':Val} {w w':World} {base b:Nat} {sets:List (Nat × SO)} (hE:Eff P β w base sets [] β' w'):Eff P β w b sets [] β' w' :=
 ⟨hE.le,hE.os,hE.tape,hE.output,hE.drawn,hE.size,fun n _=>hE.dom n (by simp; omega),hE.frame,hE.one,hE.turned,(by intro i e h; simp at h),(by intro i j l l' _ h; simp at h)⟩
theorem HeapRel.apply {P:Program} {O:Nat->Prop} {w0:World} {β:Val} {H:List SO} {w:World} (h:HeapRel P O w0 β H w)
  {sets:List (Nat × SO)} {news:List SO} {β':Val} {w':World} (hE:Eff P β w H.length sets news β' w')
  (hs:∀ n e,(n,e)∈sets->∃ e0,H[n]? = some e0/\e0.owned=true):HeapRel P O w0 β' (qyb H sets news) w':=by
 rw [qhc]
 have hlen:(qgc H sets).length=H.length:=q8d _ _
 have hold:∀ n,n<H.length->β' n=β n:=fun n hn=>hE.dom n (.inl hn)
 have hlt:∀ n e l,H[n]? = some e->e.owned=true->β n=some l->l.blk<w.heap.size:=by
  intro n e l he ho hl
  exact ((h.entries n e he).toOwn ho).lt ho hl
 have hcase:∀ n e,(qgc H sets++news)[n]? = some e->(n<H.length/\H[n]? = some e/\∀ e,(n,e) ∉ sets)\/(n<H.length/\(n,e)∈sets)\/(∃ i,n=H.length+i/\news[i]? = some e):=by
  intro n e he
  rcases Nat.lt_or_ge n H.length with hn | hn
  . rw [List.getElem?_append_left (by omega)] at he
    rcases qw8 _ _ _ _ he with ⟨a,b⟩ | a
    . exact .inl ⟨hn,a,b⟩
    . exact .inr (.inl ⟨hn,a⟩)
  . rw [List.getElem?_append_right (by omega),hlen] at he
    exact .inr (.inr ⟨n - H.length,by omega,he⟩)
 have hplace:∀ n e l,n<H.length->((H[n]? = some e/\∀ e,(n,e) ∉ sets)\/(n,e)∈sets)->e.owned=true->β' n=some l->∃ e0,H[n]? = some e0/\e0.owned=true/\β n=some l:=by
  intro n e l hn hc ho hl
  rw [hold n hn] at hl
  rcases hc with ⟨a,_⟩ | a
  . exact ⟨e,a,ho,hl⟩
  . obtain ⟨e0,h0,h1⟩:=hs n e a; exact ⟨e0,h0,h1,hl⟩
 refine ⟨⟨?_,?_,?_,?_⟩,?_⟩
 . intro n e he
   rcases hcase n e he with ⟨hn,ho,hns⟩ | ⟨hn,hin⟩ | ⟨i,rfl,hi⟩
   . have h0:=h.entries n e ho
     cases e with
     | row c =>
       obtain ⟨l,vs,hl,hc,hx⟩:=h0
       exact ⟨l,vs,hE.le _ _ hl,hc.mono hE.le,hx⟩
     | own c wh el =>
       refine OwnRel.kept (P:=P) (e:=.own c wh el) h0 hE.le fun hw l hl=>hE.frame _ (hlt n _ l ho hw hl) fun m e' l' hm hl' => ?_
       obtain ⟨e0,h1,h2⟩:=hs m e' hm
       exact h.sep m n e0 _ l' l h1 ho h2 hw (fun hmn=>hns e' (hmn▸hm)) hl' hl
     | loop s p f T ps a b d =>
       refine OwnRel.kept (P:=P) (e:=.loop s p f T ps a b d) h0 hE.le fun hw l hl=>hE.frame _ (hlt n _ l ho hw hl) fun m e' l' hm hl' => ?_
       obtain ⟨e0,h1,h2⟩:=hs m e' hm
       exact h.sep m n e0 _ l' l h1 ho h2 hw (fun hmn=>hns e' (hmn▸hm)) hl' hl
     | deferred ds =>
       refine OwnRel.kept (P:=P) (e:=.deferred ds) h0 hE.le fun hw l hl=>hE.frame _ (hlt n _ l ho hw hl) fun m e' l' hm hl' => ?_
       obtain ⟨e0,h1,h2⟩:=hs m e' hm
       exact h.sep m n e0 _ l' l h1 ho h2 hw (fun hmn=>hns e' (hmn▸hm)) hl' hl
     | gone=>trivial
     | obj o =>
       refine OwnRel.kept (P:=P) (e:=.obj o) h0 hE.le fun hw l hl=>hE.frame _ (hlt n _ l ho hw hl) fun m e' l' hm hl' => ?_
       obtain ⟨e0,h1,h2⟩:=hs m e' hm
       exact h.sep m n e0 _ l' l h1 ho h2 hw (fun hmn=>hns e' (hmn▸hm)) hl' hl
   . have:=hE.turned n e hin
     cases e <;> first | exact this | exact this.elim
   . obtain ⟨hw,hr,_⟩:=hE.made i e hi
     cases e <;> first | exact hr | (cases hw; done)
 . have hsep:∀ n m e e' l l',n<H.length->((H[n]? = some e/\∀ e,(n,e) ∉ sets)\/(n,e)∈sets)->e.owned=true->β' n=some l->(∃ i,m=H.length+i/\news[i]? = some e')->β' m=some l'->l.blk≠l'.blk:=by
    intro n m e e' l l' hn hc ho hl ⟨i,hm,hi⟩ hl' heq
    subst hm
    obtain ⟨e0,h0,h1,h2⟩:=hplace n e l hn hc ho hl
    obtain ⟨_,_,l2,hl2,hor⟩:=hE.made i e' hi
    rw [hl'] at hl2; cases hl2
    rcases hor with hge | ⟨k,lk,hk,hlk,hbk⟩
    . have:=hlt n e0 l h0 h1 h2; omega
    . obtain ⟨e1,h3,h4⟩:=hs k .gone hk
      by_cases hkn:k=n
      . subst hkn
        rcases hc with ⟨_,hno⟩ | hin
        . exact hno _ hk
        . have:=hE.one _ _ _ hin hk
          subst this; cases ho
      . exact h.sep k n e1 e0 lk l h3 h0 h4 h1 hkn hlk h2 (hbk.trans heq.symm)
   intro n m e e' l l' he he' hw hw' hnm hl hl'
   have hN:∀ n e,(qgc H sets++news)[n]? = some e->(n<H.length/\((H[n]? = some e/\∀ e,(n,e) ∉ sets)\/(n,e)∈sets))\/(∃ i,n=H.length+i/\news[i]? = some e):=by
    intro n e he
    rcases hcase n e he with ⟨a,b,c⟩ | ⟨a,b⟩ | c
    . exact .inl ⟨a,.inl ⟨b,c⟩⟩
    . exact .inl ⟨a,.inr b⟩
    . exact .inr c
   rcases hN n e he with ⟨hn,hc⟩ | hn
   . rcases hN m e' he' with ⟨hm,hc'⟩ | hm
     . obtain ⟨e0,h0,h1,h2⟩:=hplace n e l hn hc hw hl
       obtain ⟨e1,h3,h4,h5⟩:=hplace m e' l' hm hc' hw' hl'
       exact h.sep n m e0 e1 l l' h0 h3 h1 h4 hnm h2 h5
     . exact hsep n m e e' l l' hn hc hw hl hm hl'
   . rcases hN m e' he' with ⟨hm,hc'⟩ | hm
     . exact (hsep m n e' e l' l hm hc' hw' hl' hn hl).symm
     . obtain ⟨i,rfl,hi⟩:=hn
       obtain ⟨j,rfl,hj⟩:=hm
       exact hE.apart i j l l' (by omega) (List.getElem?_eq_some_iff.1 hi).1 (List.getElem?_eq_some_iff.1 hj).1 hl hl'
 . intro n e l he hw hl
   rcases hcase n e he with ⟨hn,ho,hns⟩ | ⟨hn,hin⟩ | ⟨i,rfl,hi⟩
   . obtain ⟨e0,h0,h1,h2⟩:=hplace n e l hn (.inl ⟨ho,hns⟩) hw hl
     exact h.fresh n e0 l h0 h1 h2
   . obtain ⟨e0,h0,h1,h2⟩:=hplace n e l hn (.inr hin) hw hl
     exact h.fresh n e0 l h0 h1 h2
   . obtain ⟨_,_,l2,hl2,hor⟩:=hE.made i e hi
     rw [hl] at hl2; cases hl2
     rcases hor with hge | ⟨k,lk,hk,hlk,hbk⟩
     . left; have:=h.keep.size; omega
     . obtain ⟨e1,h3,h4⟩:=hs k .gone hk
       have:=h.fresh k e1 lk h3 h4 hlk
       rwa [hbk] at this
 . refine ⟨hE.os.trans h.keep.os,hE.tape.trans h.keep.tape,hE.output.trans h.keep.output,Nat.le_trans h.keep.drawn hE.drawn,Nat.le_trans h.keep.size hE.size,fun k hk hO => ?_⟩
   rw [hE.frame k (Nat.lt_of_lt_of_le hk h.keep.size) ?_,h.keep.block k hk hO]
   intro n e l hn hl hb
   obtain ⟨e0,h0,h1⟩:=hs n e hn
   rcases h.fresh n e0 l h0 h1 hl with h2 | h2
   . omega
   . exact hO (hb▸h2)
 . intro n hn
   rw [List.length_append,hlen] at hn
   rw [hE.dom n (.inr hn)]
   exact h.bound n (by omega)
end
end Go.Sim
