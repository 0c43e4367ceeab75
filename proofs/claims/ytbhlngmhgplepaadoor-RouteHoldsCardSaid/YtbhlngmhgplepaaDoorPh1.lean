/-
  zcS behind one another: the symbolic simulator and what it is told of the program.
-/
import Derived.AtR
import Derived.Orders
import Derived.KernelRfl
namespace Go.Sim
noncomputable section
noncomputable section
def nth {α:Type} (l:List α):Nat->Option α :=
 List.rec (motive:=fun _=>Nat->Option α) (fun _=>none) (fun a _ ih n=>Nat.rec (motive:=fun _=>Option α) (some a) (fun m _=>ih m) n) l
def zbv {α:Type} (l:List α):Nat->α->List α :=
 List.rec (motive:=fun _=>Nat->α->List α) (fun _ _=>[]) (fun a t ih n v=>Nat.rec (motive:=fun _=>List α) (v::t) (fun m _=>a::ih m v) n) l
def app {α:Type} (l r:List α):List α:=List.rec (motive:=fun _=>List α) r (fun a _ ih=>a::ih) l
def qta {α:Type} (l:List α):Nat->List α :=
 List.rec (motive:=fun _=>Nat->List α) (fun _=>[]) (fun a _ ih n=>Nat.rec (motive:=fun _=>List α) [] (fun m _=>a::ih m) n) l
def qnb {α:Type} (l:List α):Nat->List α :=
 List.rec (motive:=fun _=>Nat->List α) (fun _=>[]) (fun a t ih n=>Nat.rec (motive:=fun _=>List α) (a::t) (fun m _=>ih m) n) l
def zas {α β:Type} (f:α->β) (l:List α):List β:=List.rec (motive:=fun _=>List β) [] (fun a _ ih=>f a::ih) l
def zay {α:Type} (l:List α):Nat:=List.rec (motive:=fun _=>Nat) 0 (fun _ _ ih=>Nat.succ ih) l
def zba {α:Type} (a:α) (n:Nat):List α:=Nat.rec (motive:=fun _=>List α) [] (fun _ ih=>a::ih) n
def qqa (n:Nat):Nat->List Nat:=Nat.rec (motive:=fun _=>Nat->List Nat) (fun _=>[]) (fun _ ih k=>k::ih (Nat.succ k)) n
def qoj {α:Type} (l:List α):Nat->List α->List α :=
 List.rec (motive:=fun _=>Nat->List α->List α) (fun _ _=>[])
  (fun a t ih n v=>Nat.rec (motive:=fun _=>List α) (List.casesOn (motive:=fun _=>List α) v (a::t) (fun x v'=>x::ih 0 v')) (fun m _=>a::ih m v) n) l
inductive SI where
 | lit (n:Int)
 | sym (n:Int)
 | b8 (x:BitVec 8)
 | b32 (x:BitVec 32)
 | b64 (x:BitVec 64)
def SI.den:SI->Int
 | .lit n=>n
 | .sym n=>n
 | .b8 x=>(x.toNat:Int)
 | .b32 x=>(x.toNat:Int)
 | .b64 x=>(x.toNat:Int)
inductive SB where
 | lit (b:Bool)
 | sym (b:Bool)
def SB.den:SB->Bool
 | .lit b=>b
 | .sym b=>b
inductive SN where
 | lit (n:Nat)
 | sym (n:Nat)
 | byt (o:Nat) (x:BitVec 8)
def SN.den:SN->Nat
 | .lit n=>n
 | .sym n=>n
 | .byt o x=>o+x.toNat
inductive za8 where
 | lit (s:ByteArray)
 | sym (s:ByteArray)
 | bytes (l:List SI)
def qfc (l:List SI):ByteArray:=⟨(l.map fun i=>UInt8.ofNat i.den.toNat).toArray⟩
def za8.den:za8->ByteArray
 | .lit s=>s
 | .sym s=>s
 | .bytes l=>qfc l
structure Loc where
 blk:Nat
 off:Nat
 cap:Nat
abbrev Val:=Nat->Option Loc
inductive SC where
 | lit (n:Nat)
 | sym (n:Nat)
 | rest (nm:Nat) (k:Nat)
def SC.den (β:Val):SC->Option Nat
 | .lit n=>some n
 | .sym n=>some n
 | .rest nm k=>(β nm).map fun l=>l.cap - k
structure SA where
 nm:Nat
 off:SN
def SA.den (β:Val) (a:SA):Option Addr:=(β a.nm).map fun l=>{ block:=l.blk,off:=l.off+a.off.den,spot:=none }
inductive SFn where
 | fn (f:Fn)
 | yield (nm:Nat)
def SFn.den (β:Val):SFn->Option Fn
 | .fn f=>some f
 | .yield nm=>(β nm).map fun l=>.yield l.blk
inductive SV where
 | int (k:IntKind) (n:SI)
 | bool (b:SB)
 | str (s:za8)
 | ptr (a:SA)
 | nilPtr
 | slice (a:SA) (len:SN) (cap:SC)
 | zad
 | map (nm:Nat)
 | zau
 | func (fn:SFn) (first captured:List SV)
 | nilFunc
 | iface (t:TypeId) (v:SV)
 | nilIface
 | agg (l:List SV)
 | tuple (l:List SV)
 | val (v:Value)
 | tail (a:SA) (n:SN) (len:SN) (c:SC)
instance:Inhabited SV:=⟨.tuple []⟩
def qzm (x:Addr) (l c:Nat):Option Value:=if l<=c then some (.slice (some x) l c) else none
def qx2 (x:Addr) (n l c:Nat):Option Value:=if l<=c then some (.slice (some (if c=0 then x else x.add n)) l c) else none
mutual
def SV.den (β:Val):SV->Option Value
 | .int k n=>some (.int k n.den)
 | .bool b=>some (.bool b.den)
 | .str s=>some (.string s.den)
 | .ptr a=>(a.den β).map fun x=>.pointer (some x)
 | .nilPtr=>some (.pointer none)
 | .slice a l c=>(a.den β).bind fun x=>(c.den β).bind fun c=>qzm x l.den c
 | .zad=>some (.slice none 0 0)
 | .map nm=>(β nm).map fun l=>.map (some l.blk)
 | .zau=>some (.map none)
 | .func f xs ys=>(f.den β).bind fun f=>(SV.zal β xs).bind fun xs=>(SV.zal β ys).map fun ys=>.func f xs.toArray ys.toArray
 | .nilFunc=>some .nilFunc
 | .iface t v=>(v.den β).map fun v=>.iface t v
 | .nilIface=>some .nilIface
 | .agg l=>(SV.zal β l).map fun l=>.agg l.toArray
 | .tuple l=>(SV.zal β l).map fun l=>.tuple l.toArray
 | .val v=>some v
 | .tail a n l c=>(a.den β).bind fun x=>(c.den β).bind fun c=>qx2 x n.den l.den c
def SV.zal (β:Val):List SV->Option (List Value)
 | []=>some []
 | v::l=>(v.den β).bind fun v=>(SV.zal β l).map fun l=>v::l
end
def qsa:SV:=.tuple []
inductive SD where
 | coll (nm:Nat)
 | call (fn:SFn) (args captured:List SV)
inductive Cells where
 | lst (l:List SV)
 | fn (f:Nat->SV) (n:Nat)
 | raw (f:Nat->Value) (n:Nat)
inductive SK where
 | i (k:IntKind)
 | b
 | s
 | v
structure MSh where
 agg:Bool
 cells:List SK
def zfK (v:Value):Int:=match v with | .int _ n=>n | _=>0
def zeA (v:Value):Bool:=match v with | .bool b=>b | _=>false
def zd5 (v:Value):ByteArray:=match v with | .string s=>s | _=>.empty
def siK (k:IntKind) (n:Int):SI:=IntKind.rec (motive:=fun _=>SI) (.sym n) (.sym n) (.sym n) (.sym n) (.b8 (BitVec.ofInt 8 n)) (.sym n) (.b32 (BitVec.ofInt 32 n)) (.b64 (BitVec.ofInt 64 n)) k
def zfQ (k:SK) (v:Value):SV:=SK.rec (motive:=fun _=>SV) (fun k=>.int k (siK k (zfK v))) (.bool (.sym (zeA v))) (.str (.sym (zd5 v))) (.val v) k
def qnq (v:Value) (j:Nat):Value:=match v with | .agg a=>a.toList.getD j undef | v=>v
def qko (v:Value) (ks:List SK):Nat->List SV:=List.rec (motive:=fun _=>Nat->List SV) (fun _=>[]) (fun k _ ih j=>zfQ k (qnq v j)::ih (Nat.succ j)) ks
def zj1 (ks:List SK):SK:=List.rec (motive:=fun _=>SK) .v (fun k _ _=>k) ks
def MSh.see (s:MSh) (v:Value):SV:=Bool.rec (motive:=fun _=>SV) (zfQ (zj1 s.cells) v) (.agg (qko v s.cells 0)) s.agg
def MSh.fit (s:MSh) (v:Value):Prop:=∀ β,(s.see v).den β=some v
def zdb (k:SK) (v:Value):Prop:=∀ β,(zfQ k v).den β=some v
inductive zaW where
 | map (es:List (SV × SV × Nat)) (clock:Nat)
 | iter (m:Option Nat) (since:Nat) (seen:List Nat) (last:Nat)
 | str (s:za8) (pos:Nat)
 | zaU (ks vs:MSh) (es:List MapEntry) (clock:Nat)
structure Mem where
 cell:Addr->Option Value
 own:Nat->Option (Nat × Nat × TypeId)
 old:Nat->Prop
inductive SO where
 | own (c:Cells) (whole:Bool) (elem:TypeId)
 | row (c:Cells)
 | loop (state:LoopState) (pending:Option Code) (fn:FuncId) (tmps:List SV) (params:Array Tmp) (assign body:Code) (defers:Nat)
 | deferred (ds:Option (List SD))
 | gone
 | obj (o:zaW)
 | mem (m:Mem)
inductive R (α:Type) where
 | ok (a:α)
 | need (p:Prop) (r:R α)
 | fork (b:Bool) (t f:R α)
 | stuck (n:Nat)
 | any (k:(Nat->Nat)->R α)
def R.bind {α β:Type} (r:R α) (f:α->R β):R β :=
 R.rec (motive:=fun _=>R β) (fun a=>f a) (fun p _ ih=>.need p ih) (fun b _ _ t f=>.fork b t f) (fun n=>.stuck n) (fun _ ih=>.any ih) r
def R.opt {α β:Type} (n:Nat) (o:Option α) (f:α->R β):R β:=Option.rec (motive:=fun _=>R β) (.stuck n) (fun a=>f a) o
def zah {α β:Type} (o:Option α) (d:β) (f:α->β):β:=Option.rec (motive:=fun _=>β) d (fun a=>f a) o
def zab {β:Type} (b:Bool) (t f:β):β:=Bool.rec (motive:=fun _=>β) f t b
def SV.asInt {β:Type} (v:SV) (d:β) (f:IntKind->SI->β):β :=
 SV.rec (motive_1:=fun _=>β) (motive_2:=fun _=>Unit) (fun k n=>f k n) (fun _=>d) (fun _=>d) (fun _=>d) d (fun _ _ _=>d) d (fun _=>d) d (fun _ _ _ _ _=>d) d (fun _ _ _=>d) d (fun _ _=>d) (fun _ _=>d) (fun _=>d) (fun _ _ _ _=>d) () (fun _ _ _ _=>()) v
def SV.asBool {β:Type} (v:SV) (d:β) (f:SB->β):β :=
 SV.rec (motive_1:=fun _=>β) (motive_2:=fun _=>Unit) (fun _ _=>d) (fun b=>f b) (fun _=>d) (fun _=>d) d (fun _ _ _=>d) d (fun _=>d) d (fun _ _ _ _ _=>d) d (fun _ _ _=>d) d (fun _ _=>d) (fun _ _=>d) (fun _=>d) (fun _ _ _ _=>d) () (fun _ _ _ _=>()) v
def SV.zem {β:Type} (v:SV) (d:β) (f:SA->β):β :=
 SV.rec (motive_1:=fun _=>β) (motive_2:=fun _=>Unit) (fun _ _=>d) (fun _=>d) (fun _=>d) (fun a=>f a) d (fun _ _ _=>d) d (fun _=>d) d (fun _ _ _ _ _=>d) d (fun _ _ _=>d) d (fun _ _=>d) (fun _ _=>d) (fun _=>d) (fun _ _ _ _=>d) () (fun _ _ _ _=>()) v
def SV.asSlice {β:Type} (v:SV) (d:β) (f:SA->SN->SC->β):β :=
 SV.rec (motive_1:=fun _=>β) (motive_2:=fun _=>Unit) (fun _ _=>d) (fun _=>d) (fun _=>d) (fun _=>d) d (fun a l c=>f a l c) d (fun _=>d) d (fun _ _ _ _ _=>d) d (fun _ _ _=>d) d (fun _ _=>d) (fun _ _=>d) (fun _=>d) (fun _ _ _ _=>d) () (fun _ _ _ _=>()) v
def SV.zed {β:Type} (v:SV) (d:β) (f:SFn->List SV->List SV->β):β :=
 SV.rec (motive_1:=fun _=>β) (motive_2:=fun _=>Unit) (fun _ _=>d) (fun _=>d) (fun _=>d) (fun _=>d) d (fun _ _ _=>d) d (fun _=>d) d (fun g xs ys _ _=>f g xs ys) d (fun _ _ _=>d) d (fun _ _=>d) (fun _ _=>d) (fun _=>d) (fun _ _ _ _=>d) () (fun _ _ _ _=>()) v
def SV.asAgg {β:Type} (v:SV) (d:β) (f:List SV->β):β :=
 SV.rec (motive_1:=fun _=>β) (motive_2:=fun _=>Unit) (fun _ _=>d) (fun _=>d) (fun _=>d) (fun _=>d) d (fun _ _ _=>d) d (fun _=>d) d (fun _ _ _ _ _=>d) d (fun _ _ _=>d) d (fun l _=>f l) (fun _ _=>d) (fun _=>d) (fun _ _ _ _=>d) () (fun _ _ _ _=>()) v
def SV.asTuple {β:Type} (v:SV) (d:β) (f:List SV->β):β :=
 SV.rec (motive_1:=fun _=>β) (motive_2:=fun _=>Unit) (fun _ _=>d) (fun _=>d) (fun _=>d) (fun _=>d) d (fun _ _ _=>d) d (fun _=>d) d (fun _ _ _ _ _=>d) d (fun _ _ _=>d) d (fun _ _=>d) (fun l _=>f l) (fun _=>d) (fun _ _ _ _=>d) () (fun _ _ _ _=>()) v
def qrh (v:SV):Bool :=
 SV.rec (motive_1:=fun _=>Bool) (motive_2:=fun _=>Unit) (fun _ _=>true) (fun _=>true) (fun _=>true) (fun _=>true) true (fun _ _ _=>true) true (fun _=>true) true (fun _ _ _ _ _=>true) true (fun _ _ _=>true) true (fun _ _=>false) (fun _ _=>false) (fun _=>false) (fun _ _ _ _=>true) () (fun _ _ _ _=>()) v
def SV.zc3 {β:Type} (v:SV) (d:β) (f:Value->β):β :=
 SV.rec (motive_1:=fun _=>β) (motive_2:=fun _=>Unit) (fun _ _=>d) (fun _=>d) (fun _=>d) (fun _=>d) d (fun _ _ _=>d) d (fun _=>d) d (fun _ _ _ _ _=>d) d (fun _ _ _=>d) d (fun _ _=>d) (fun _ _=>d) (fun v=>f v) (fun _ _ _ _=>d) () (fun _ _ _ _=>()) v
def qfg (v:SV):List SV:=v.asAgg [v] fun l=>l
def qmi {α:Type} (l:List SV) (r:R α):R α:=List.rec (motive:=fun _=>R α) r (fun v _ ih=>v.zc3 ih fun x=>.need (x.oneCell'=true) ih) l
def qik:Value->SV
 | .bool b=>.bool (.lit b)
 | .int k n=>.int k (.lit n)
 | .string s=>.str (.lit s)
 | .pointer none=>.nilPtr
 | .slice none 0 0=>.zad
 | .map none=>.zau
 | .nilFunc=>.nilFunc
 | .nilIface=>.nilIface
 | v=>.val v
def qoq:Value->SV
 | .agg ⟨l⟩=>.agg (zas qik l)
 | .tuple ⟨[]⟩=>.tuple []
 | .func f ⟨[]⟩ ⟨[]⟩=>.func (.fn f) [] []
 | v=>qik v
def zgR (k:IntKind):Nat:=IntKind.rec (motive:=fun _=>Nat) 127 32767 2147483647 9223372036854775807 255 65535 4294967295 18446744073709551615 k
def idxK (k:IntKind):Nat:=IntKind.rec (motive:=fun _=>Nat) 0 1 2 3 4 5 6 7 k
def eqK (a b:IntKind):Bool:=Nat.beq (idxK a) (idxK b)
def zdp {β:Type} (n:Int) (f g:Nat->β):β:=Int.rec (motive:=fun _=>β) (fun m=>f m) (fun m=>g m) n
def qpj (k:IntKind) (n:Int):Int:=zdp n (fun m=>Bool.rec (motive:=fun _=>Int) (k.wrap n) (.ofNat m) (Nat.ble m (zgR k))) (fun _=>k.wrap n)
def ltI (x y:Int):Bool:=zdp x (fun a=>zdp y (fun b=>Nat.blt a b) (fun _=>false)) (fun a=>zdp y (fun _=>true) (fun b=>Nat.blt b a))
def eqI (x y:Int):Bool:=zdp x (fun a=>zdp y (fun b=>Nat.beq a b) (fun _=>false)) (fun a=>zdp y (fun _=>false) (fun b=>Nat.beq a b))
def addI (x y:Int):Int:=zdp x (fun a=>zdp y (fun b=>.ofNat (Nat.add a b)) (fun _=>x+y)) (fun _=>x+y)
def SI.za6 {β:Type} (x:SI) (d:β) (f:Int->β):β:=SI.rec (motive:=fun _=>β) (fun n=>f n) (fun _=>d) (fun _=>d) (fun _=>d) (fun _=>d) x
def SN.za6 {β:Type} (x:SN) (d:β) (f:Nat->β):β:=SN.rec (motive:=fun _=>β) (fun n=>f n) (fun _=>d) (fun _ _=>d) x
def i8 (x:SI):Option (BitVec 8):=SI.rec (motive:=fun _=>Option (BitVec 8)) (fun n=>some (BitVec.ofInt 8 n)) (fun _=>none) (fun x=>some x) (fun _=>none) (fun _=>none) x
def i32 (x:SI):Option (BitVec 32):=SI.rec (motive:=fun _=>Option (BitVec 32)) (fun n=>some (BitVec.ofInt 32 n)) (fun _=>none) (fun _=>none) (fun x=>some x) (fun _=>none) x
def i64 (x:SI):Option (BitVec 64):=SI.rec (motive:=fun _=>Option (BitVec 64)) (fun n=>some (BitVec.ofInt 64 n)) (fun _=>none) (fun _=>none) (fun _=>none) (fun x=>some x) x
def qqe (op:BinOp) (k:IntKind) (x y:Int):Int :=
 let a:=BitVec.ofInt k.bits x
 let b:=BitVec.ofInt k.bits y
 match op with
 | .and=>k.wrap (a &&& b).toNat
 | .or=>k.wrap (a ||| b).toNat
 | .xor=>k.wrap (a ^^^ b).toNat
 | _=>k.wrap (a &&& ~~~b).toNat
def qnv (w:Nat) (a b:BitVec w):Option (BitVec w):=some (a+b)
def qov (w:Nat) (a b:BitVec w):Option (BitVec w):=some (a - b)
def qpv (w:Nat) (a b:BitVec w):Option (BitVec w):=some (a * b)
def qpq (w:Nat) (a b:BitVec w):Option (BitVec w):=some (a &&& b)
def zhh (w:Nat) (a b:BitVec w):Option (BitVec w):=some (a ||| b)
def qqq (w:Nat) (a b:BitVec w):Option (BitVec w):=some (a ^^^ b)
def qdl (w:Nat) (a b:BitVec w):Option (BitVec w):=some (a &&& ~~~b)
def qzd (w:Nat) (_a _b:BitVec w):Option (BitVec w):=none
def zfl (op:BinOp):(w:Nat)->BitVec w->BitVec w->Option (BitVec w) :=
 BinOp.rec (motive:=fun _=>(w:Nat)->BitVec w->BitVec w->Option (BitVec w)) qnv qov qpv qzd qzd qpq zhh qqq qzd qzd qdl qzd qzd qzd qzd qzd qzd op
def jec (k:IntKind) (x y:Int):Option Int:=some (qpj k (addI x y))
def jfc (k:IntKind) (x y:Int):Option Int:=some (qpj k (Int.sub x y))
def jgc (k:IntKind) (x y:Int):Option Int:=some (qpj k (Int.mul x y))
def jhc (k:IntKind) (x y:Int):Option Int:=some (qqe .and k x y)
def arOr (k:IntKind) (x y:Int):Option Int:=some (qqe .or k x y)
def jic (k:IntKind) (x y:Int):Option Int:=some (qqe .xor k x y)
def qlw (k:IntKind) (x y:Int):Option Int:=some (qqe .andNot k x y)
def que (_k:IntKind) (_x _y:Int):Option Int:=none
def qrq (op:BinOp):IntKind->Int->Int->Option Int :=
 BinOp.rec (motive:=fun _=>IntKind->Int->Int->Option Int) jec jfc jgc que que jhc arOr jic que que qlw que que que que que que op
def jjc (x y:Int):Option Int:=some (x+y)
def jkc (x y:Int):Option Int:=some (x - y)
def qbd (_x _y:Int):Option Int:=none
def qmw (op:BinOp):Int->Int->Option Int :=
 BinOp.rec (motive:=fun _=>Int->Int->Option Int) jjc jkc qbd qbd qbd qbd qbd qbd qbd qbd qbd qbd qbd qbd qbd qbd qbd op
def qna (n:Int):Prop := -9223372036854775808<=n/\n<=9223372036854775807
def arLL (a b:Int) (op:BinOp) (k:IntKind):R SI:=R.opt 100 (qrq op k a b) fun n=>.ok (.lit n)
def qrf (op:BinOp) (k:IntKind) (x y:SI):R SI:=R.opt 102 (qrq op k x.den y.den) fun n=>.ok (.sym n)
def zkH (a:BitVec 8) (op:BinOp) (x y:SI):R SI:=Option.rec (motive:=fun _=>R SI) (qrf op .u8 x y) (fun b=>R.opt 101 (zfl op 8 a b) fun n=>.ok (.b8 n)) (i8 y)
def ar8 (op:BinOp) (x y:SI):R SI:=Option.rec (motive:=fun _=>R SI) (qrf op .u8 x y) (fun a=>zkH a op x y) (i8 x)
def qy2 (a:BitVec 32) (op:BinOp) (x y:SI):R SI:=Option.rec (motive:=fun _=>R SI) (qrf op .u32 x y) (fun b=>R.opt 101 (zfl op 32 a b) fun n=>.ok (.b32 n)) (i32 y)
def zkJ (op:BinOp) (x y:SI):R SI:=Option.rec (motive:=fun _=>R SI) (qrf op .u32 x y) (fun a=>qy2 a op x y) (i32 x)
def qz2 (a:BitVec 64) (op:BinOp) (x y:SI):R SI:=Option.rec (motive:=fun _=>R SI) (qrf op .u64 x y) (fun b=>R.opt 101 (zfl op 64 a b) fun n=>.ok (.b64 n)) (i64 y)
def zkI (op:BinOp) (x y:SI):R SI:=Option.rec (motive:=fun _=>R SI) (qrf op .u64 x y) (fun a=>qz2 a op x y) (i64 x)
def qjk (op:BinOp) (x y:SI):R SI:=Option.rec (motive:=fun _=>R SI) (qrf op .i64 x y) (fun n=>.need (qna n) (.ok (.sym n))) (qmw op x.den y.den)
def q02 (x:SI):Option (BitVec 32):=SI.rec (motive:=fun _=>Option (BitVec 32)) (fun _=>none) (fun _=>none) (fun _=>none) (fun x=>some x) (fun _=>none) x
def qre (_a _b:BitVec 32):Option (BitVec 32):=none
def qqv (op:BinOp):BitVec 32->BitVec 32->Option (BitVec 32) :=
 BinOp.rec (motive:=fun _=>BitVec 32->BitVec 32->Option (BitVec 32)) qre qre qre qre qre (qpq 32) (zhh 32) (qqq 32) qre qre qre qre qre qre qre qre qre op
def q12 (op:BinOp) (x y:SI):R SI:=Option.rec (motive:=fun _=>R SI) (qjk op x y) (fun a=>Option.rec (motive:=fun _=>R SI) (qjk op x y) (fun b=>Option.rec (motive:=fun _=>R SI) (qjk op x y) (fun z=>.ok (.b32 z)) (qqv op a b)) (q02 y)) (q02 x)
def arK (k:IntKind):BinOp->SI->SI->R SI :=
 IntKind.rec (motive:=fun _=>BinOp->SI->SI->R SI) (fun op=>qrf op .i8) (fun op=>qrf op .i16) (fun op=>qrf op .i32) q12 ar8 (fun op=>qrf op .u16) zkJ zkI k
def qkk (op:BinOp) (k:IntKind) (x y:SI):R SI:=x.za6 (arK k op x y) fun a=>y.za6 (arK k op x y) fun b=>arLL a b op k
def dvLL (a b:Int) (op:BinOp) (k:IntKind):R SI :=
 match op with
 | .quo=>.ok (.lit (qpj k (Int.tdiv a b)))
 | _=>.ok (.lit (Int.tmod a b))
def qel (op:BinOp) (k:IntKind) (x y:SI):R SI :=
 match op with
 | .quo=>.ok (.sym (k.wrap (x.den.tdiv y.den)))
 | _=>.ok (.sym (x.den.tmod y.den))
def q22 (op:BinOp) (k:IntKind) (x:SI) (b:Int):R SI :=
 match op with
 | .rem=>.need (0<=x.den) (.ok (.b32 (BitVec.ofInt 32 x.den)))
 | _=>qel op k x (.lit b)
def ziP (op:BinOp) (k:IntKind) (x:SI) (b:Int):R SI :=
 match op with
 | .rem=>Option.rec (motive:=fun _=>R SI) (qel op k x (.lit b)) (fun a=>.ok (.b8 (a.setWidth 8))) (q02 x)
 | _=>qel op k x (.lit b)
def dvW (b:Int) (x:SI) (op:BinOp) (k:IntKind):R SI:=zab (eqI b 4294967296) (q22 op k x b) (zab (eqI b 256) (ziP op k x b) (qel op k x (.lit b)))
def dvL (b:Int) (x:SI) (op:BinOp) (k:IntKind):R SI:=x.za6 (dvW b x op k) fun a=>dvLL a b op k
def divS (op:BinOp) (k:IntKind) (x y:SI):R SI:=y.za6 (.need (y.den≠0) (qel op k x y)) fun b=>zab (eqI b 0) (.stuck 103) (dvL b x op k)
def sh8 (a:BitVec 8) (n:Nat) (k:IntKind) (op:BinOp):R SI :=
 match k with
 | .u8=>match op with
   | .shl=>.ok (.b8 (a <<< n))
   | _=>.ok (.b8 (a >>> n))
 | _=>.stuck 105
def sh32 (a:BitVec 32) (n:Nat) (k:IntKind) (op:BinOp):R SI :=
 match k with
 | .u32=>match op with
   | .shl=>.ok (.b32 (a <<< n))
   | _=>.ok (.b32 (a >>> n))
 | .i64=>match op with
   | .shl=>.ok (.sym (IntKind.i64.wrap ((a.toNat:Int) * 2 ^ n)))
   | _=>.ok (.b32 (a >>> n))
 | _=>.stuck 105
def sh64 (a:BitVec 64) (n:Nat) (k:IntKind) (op:BinOp):R SI :=
 match k with
 | .u64=>match op with
   | .shl=>.ok (.b64 (a <<< n))
   | _=>.ok (.b64 (a >>> n))
 | _=>.stuck 105
def zim (a:Int) (n:Nat) (k:IntKind) (op:BinOp):R SI :=
 match op with
 | .shl=>.ok (.lit (qpj k (Int.mul a (Int.ofNat (2 ^ n)))))
 | _=>.ok (.lit (Int.fdiv a (Int.ofNat (2 ^ n))))
def zik (a:Int) (n:Nat) (k:IntKind) (op:BinOp):R SI :=
 match op with
 | .shl=>.ok (.sym (k.wrap (a * 2 ^ n)))
 | _=>.ok (.sym (a.fdiv (2 ^ n)))
def shX (x:SI):Nat->IntKind->BinOp->R SI:=SI.rec (motive:=fun _=>Nat->IntKind->BinOp->R SI) zim zik sh8 sh32 sh64 x
def q32 (k:IntKind):Nat:=IntKind.rec (motive:=fun _=>Nat) 8 16 32 64 8 16 32 64 k
def shN (op:BinOp) (k:IntKind) (x:SI) (n:Nat):R SI:=zab (Nat.ble n (q32 k)) (shX x n k op) (shX x (q32 k) k op)
def q85 (op:BinOp) (k:IntKind) (x y:SI):R SI :=
 .need (0<=y.den) (match op with
   | .shl=>.ok (.sym (k.wrap (x.den * 2 ^ (min y.den.toNat k.bits))))
   | _=>.ok (.sym (x.den.fdiv (2 ^ (min y.den.toNat k.bits)))))
def q95 (op:BinOp) (k:IntKind) (x y:SI):R SI:=y.za6 (q85 op k x y) fun b=>zdp b (fun n=>shN op k x n) (fun _=>.stuck 104)
def jlc (x y:Int):Option Bool:=some (eqI x y)
def jmc (x y:Int):Option Bool:=some (!(eqI x y))
def jnc (x y:Int):Option Bool:=some (ltI x y)
def joc (x y:Int):Option Bool:=some (!(ltI y x))
def jpc (x y:Int):Option Bool:=some (ltI y x)
def jqc (x y:Int):Option Bool:=some (!(ltI x y))
def qee (_x _y:Int):Option Bool:=none
def cmpL (op:BinOp):Int->Int->Option Bool :=
 BinOp.rec (motive:=fun _=>Int->Int->Option Bool) qee qee qee qee qee qee qee qee qee qee qee jlc jmc jnc joc jpc jqc op
def zd2 (op:BinOp) (x y:Int):Option Bool :=
 match op with
 | .eql=>some (x == y)
 | .neq=>some (x != y)
 | .lss=>some (decide (x<y))
 | .leq=>some (decide (x<=y))
 | .gtr=>some (decide (x > y))
 | .geq=>some (decide (x>=y))
 | _=>none
def cmLL (a b:Int) (op:BinOp):R SB:=R.opt 106 (cmpL op a b) fun b=>.ok (.lit b)
def q42 (op:BinOp) (x y:SI):R SB:=R.opt 106 (zd2 op x.den y.den) fun b=>.ok (.sym b)
def zf6 (op:BinOp) (x y:SI):R SB:=x.za6 (q42 op x y) fun a=>y.za6 (q42 op x y) fun b=>cmLL a b op
def cv8 (a:BitVec 8) (k:IntKind):SI :=
 match k with
 | .u8=>.b8 a
 | .u32=>.b32 (a.setWidth 32)
 | .u64=>.b64 (a.setWidth 64)
 | .i64=>.sym (a.toNat:Int)
 | k=>.sym (k.wrap (a.toNat:Int))
def cv32 (a:BitVec 32) (k:IntKind):SI :=
 match k with
 | .u8=>.b8 (a.setWidth 8)
 | .u32=>.b32 a
 | .u64=>.b64 (a.setWidth 64)
 | .i64=>.sym (a.toNat:Int)
 | k=>.sym (k.wrap (a.toNat:Int))
def cv64 (a:BitVec 64) (k:IntKind):SI :=
 match k with
 | .u8=>.b8 (a.setWidth 8)
 | .u32=>.b32 (a.setWidth 32)
 | .u64=>.b64 a
 | k=>.sym (k.wrap (a.toNat:Int))
def cvL (n:Int) (k:IntKind):SI:=.lit (qpj k n)
def cvS (n:Int) (k:IntKind):SI :=
 match k with
 | .u8=>.b8 (BitVec.ofInt 8 n)
 | .u32=>.b32 (BitVec.ofInt 32 n)
 | .u64=>.b64 (BitVec.ofInt 64 n)
 | k=>.sym (k.wrap n)
def jrc (k:IntKind) (x:SI):SI:=SI.rec (motive:=fun _=>IntKind->SI) cvL cvS cv8 cv32 cv64 x k
def SI.toN (x:SI):SN:=SI.rec (motive:=fun _=>SN) (fun n=>.lit (zdp n (fun m=>m) (fun _=>0))) (fun n=>.sym n.toNat) (fun x=>.byt 0 x) (fun x=>.sym (x.toNat:Int).toNat) (fun x=>.sym (x.toNat:Int).toNat) x
def SN.toI (n:SN):SI:=SN.rec (motive:=fun _=>SI) (fun n=>.lit (Int.ofNat n)) (fun n=>.sym (n:Int)) (fun o x=>.sym ((o+x.toNat:Nat):Int)) n
def SN.add (x y:SN):SN:=SN.rec (motive:=fun _=>SN) (fun a=>SN.rec (motive:=fun _=>SN) (fun b=>.lit (Nat.add a b)) (fun b=>.sym (a+b)) (fun o b=>.byt (Nat.add a o) b) y) (fun a=>.sym (a+y.den)) (fun o a=>SN.rec (motive:=fun _=>SN) (fun b=>.byt (Nat.add o b) a) (fun b=>.sym (o+a.toNat+b)) (fun o' b=>.sym (o+a.toNat+(o'+b.toNat))) y) x
def SN.sub (x y:SN):SN:=SN.rec (motive:=fun _=>SN) (fun a=>SN.rec (motive:=fun _=>SN) (fun b=>.lit (Nat.sub a b)) (fun b=>.sym (a - b)) (fun o b=>.sym (a - (o+b.toNat))) y) (fun a=>.sym (a - y.den)) (fun o a=>.sym (o+a.toNat - y.den)) x
def SN.mul (x:SN) (b:Nat):SN:=SN.rec (motive:=fun _=>SN) (fun a=>.lit (Nat.mul a b)) (fun a=>.sym (a * b)) (fun o a=>zab (Nat.beq b 1) (.byt o a) (.sym ((o+a.toNat) * b))) x
def qyi {α:Type} (i:SI) (n:SN) (k:SN->R α):R α:=.need (0<=i.den/\i.den<(n.den:Int)) (k i.toN)
def qss {α:Type} (x:BitVec 8) (n:SN) (k:SN->R α):R α:=n.za6 (qyi (.b8 x) n k) fun m=>zab (Nat.ble 256 m) (k (.byt 0 x)) (qyi (.b8 x) n k)
def jhi {α:Type} (i:SI) (n:SN) (k:SN->R α):R α:=SI.rec (motive:=fun _=>R α) (fun _=>qyi i n k) (fun _=>qyi i n k) (fun x=>qss x n k) (fun _=>qyi i n k) (fun _=>qyi i n k) i
def qa6 {α:Type} (a:Nat) (n:SN) (k:SN->R α):R α:=SN.rec (motive:=fun _=>R α) (fun n=>zab (Nat.blt a n) (k (.lit a)) (.stuck 107)) (fun n=>.need (a<n) (k (.lit a))) (fun o x=>.need (a<o+x.toNat) (k (.lit a))) n
def zes {α:Type} (i:SI) (n:SN) (k:SN->R α):R α:=i.za6 (jhi i n k) fun a=>zdp a (fun a=>qa6 a n k) (fun _=>.stuck 107)
def qb6 {α:Type} (i:SI) (n:SN) (k:SN->R α):R α:=.need (0<=i.den/\i.den<=(n.den:Int)) (k i.toN)
def qc6 {α:Type} (a:Nat) (n:SN) (k:SN->R α):R α:=SN.rec (motive:=fun _=>R α) (fun n=>zab (Nat.ble a n) (k (.lit a)) (.stuck 108)) (fun n=>.need (a<=n) (k (.lit a))) (fun o x=>.need (a<=o+x.toNat) (k (.lit a))) n
def bndS {α:Type} (i:SI) (n:SN) (k:SN->R α):R α:=i.za6 (qb6 i n k) fun a=>zdp a (fun a=>qc6 a n k) (fun _=>.stuck 108)
end
end
noncomputable section
noncomputable section
variable {α:Type}
def TypeDesc.zgb {β:Type} (d:TypeDesc) (e:β) (f:Nat->TypeId->β):β :=
 TypeDesc.rec (motive:=fun _=>β) e e (fun _=>e) (fun _=>e) (fun _=>e) e e (fun _=>e) (fun _=>e) (fun n t=>f n t) (fun _ _=>e) (fun _ _=>e) (fun _=>e) (fun _ _ _=>e) (fun _=>e) (fun _=>e) (fun _ _=>e) d
def TypeDesc.zga {β:Type} (d:TypeDesc) (e:β) (f:TypeId->β):β :=
 TypeDesc.rec (motive:=fun _=>β) e e (fun _=>e) (fun _=>e) (fun _=>e) e e (fun _=>e) (fun t=>f t) (fun _ _=>e) (fun _ _=>e) (fun _ _=>e) (fun _=>e) (fun _ _ _=>e) (fun _=>e) (fun _=>e) (fun _ _=>e) d
def TypeDesc.asSt {β:Type} (d:TypeDesc) (e:β) (f:Array Field->β):β :=
 TypeDesc.rec (motive:=fun _=>β) e e (fun _=>e) (fun _=>e) (fun _=>e) e e (fun _=>e) (fun _=>e) (fun _ _=>e) (fun _ _=>e) (fun _ _=>e) (fun l=>f l) (fun _ _ _=>e) (fun _=>e) (fun _=>e) (fun _ _=>e) d
def qcc (d:TypeDesc):Bool :=
 TypeDesc.rec (motive:=fun _=>Bool) false false (fun _=>false) (fun _=>false) (fun _=>false) false false (fun _=>false) (fun _=>false) (fun _ _=>true) (fun _ _=>false) (fun _ _=>false) (fun _=>true) (fun _ _ _=>false) (fun _=>false) (fun _=>false) (fun _ _=>false) d
def zgj {β:Type} (z:List β) (n:Nat):List β:=Nat.rec (motive:=fun _=>List β) [] (fun _ ih=>app z ih) n
def skD (d:TypeDesc):SK :=
 match d with
 | .int k=>.i k
 | .bool=>.b
 | .string=>.s
 | _=>.v
def skFs (g:TypeId->Option (List SK)):List Field->Option (List SK)
 | []=>some []
 | f::r=>(g f.type).bind fun ks=>(skFs g r).map fun l=>app ks l
def skT (P:Program):Nat->TypeId->Option (List SK)
 | 0,_=>none
 | d+1,t=>(P.underlying t).bind fun
   | .array n e=>(skT P d e).map fun ks=>zgj ks n
   | .struct fs=>skFs (fun e=>skT P d e) fs.toList
   | d=>some [skD d]
def jsc (l:List SV):List SK->List SV:=List.rec (motive:=fun _=>List SK->List SV) (fun _=>[]) (fun v r ih ks=>List.rec (motive:=fun _=>List SV) (v::r) (fun k ks _=>v.zc3 v (fun x=>zfQ k x)::ih ks) ks) l
def q52 (l:List SV):List SK->Prop:=List.rec (motive:=fun _=>List SK->Prop) (fun _=>True) (fun v _ ih ks=>List.rec (motive:=fun _=>Prop) True (fun k ks _=>v.zc3 True (fun x=>zdb k x)/\ih ks) ks) l
def qrv (P:Program) (t:TypeId) (l:List SV) (f:List SV->R α):R α:=zah (skT P 8 t) (f l) fun ks=>.need (q52 l ks) (f (jsc l ks))
def q62 (k:SK) (x:Value) (f:SV->R α):R α:=SK.rec (motive:=fun _=>R α) (fun k=>.need (zdb (.i k) x) (f (zfQ (.i k) x))) (.need (zdb .b x) (f (zfQ .b x))) (.need (zdb .s x) (f (zfQ .s x))) (f (.val x)) k
def qsv (P:Program) (t:TypeId) (v:SV) (f:SV->R α):R α:=v.zc3 (f v) fun x=>zah (P.underlying t) (f v) fun d=>q62 (skD d) x f
def rawC (c:Cells):Bool:=Cells.rec (motive:=fun _=>Bool) (fun _=>false) (fun _ _=>false) (fun _ _=>true) c
def zhu (o:Option SO):Bool:=zah o false fun o=>SO.rec (motive:=fun _=>Bool) (fun c _ _=>rawC c) (fun c=>rawC c) (fun _ _ _ _ _ _ _ _=>false) (fun _=>false) false (fun _=>false) (fun _=>false) o
def zcX (v:SV):Option Value :=
 SV.rec (motive_1:=fun _=>Option Value) (motive_2:=fun _=>Unit) (fun k n=>some (.int k n.den)) (fun b=>some (.bool b.den)) (fun s=>some (.string s.den)) (fun _=>none) (some (.pointer none)) (fun _ _ _=>none) (some (.slice none 0 0)) (fun _=>none) (some (.map none)) (fun _ _ _ _ _=>none) (some .nilFunc) (fun _ _ _=>none) (some .nilIface) (fun _ _=>none) (fun _ _=>none) (fun v=>some v) (fun _ _ _ _=>none) () (fun _ _ _ _=>()) v
def qnc (l:List SV):Option (List Value):=List.rec (motive:=fun _=>Option (List Value)) (some []) (fun v _ ih=>zah (zcX v) none fun x=>zah ih none fun xs=>some (x::xs)) l
def atV (l:List Value) (i:Nat):Value:=(l[i]?).getD undef
def qch (V:Nat->Value) (o n:Nat) (Y:Nat->Value):Nat->Value:=fun j=>if o<=j/\j<o+n then Y (j - o) else V j
def zc5 (X:Nat->Value) (l:Nat) (Y:Nat->Value):Nat->Value:=fun j=>if j<l then X j else Y (j - l)
def zi2 (l:List SV) (i:Nat) (k:Nat) (f:List SV->R α):R α:=zab (Nat.ble (Nat.add i k) (zay l)) (f (qta (qnb l i) k)) (.stuck 200)
def rdFn (g:Nat->SV) (n:Nat) (i:SN) (k:Nat) (f:List SV->R α):R α:=.need (i.den+k<=n) (f (zas (fun j=>g (i.den+j)) (qqa k 0)))
def zi1 (V:Nat->Value) (n:Nat) (i:SN) (k:Nat) (f:List SV->R α):R α:=.need (i.den+k<=n) (f (zas (fun j=>.val (V (i.den+j))) (qqa k 0)))
def qlo (c:Cells) (i:SN) (k:Nat) (f:List SV->R α):R α :=
 Cells.rec (motive:=fun _=>R α) (fun l=>i.za6 (.stuck 201) fun i=>zi2 l i k f) (fun g n=>rdFn g n i k f) (fun V n=>zi1 V n i k f) c
def zi3 (g:Nat->SV) (n:Nat) (i:SN) (f:SV->R α):R α:=SN.rec (motive:=fun _=>R α) (fun i=>.need (i<n) (f (g i))) (fun i=>.need (i<n) (f (g i))) (fun o x=>.need (o+x.toNat<n) (f (g (o+x.toNat)))) i
def lit8 (n:Int):Option (BitVec 8):=zdp n (fun m=>zab (Nat.blt m 256) (some (BitVec.ofNat 8 m)) none) fun _=>none
def si8 (n:SI):Option (BitVec 8):=SI.rec (motive:=fun _=>Option (BitVec 8)) lit8 (fun _=>none) (fun x=>some x) (fun _=>none) (fun _=>none) n
def zcJ (v:SV):Option (BitVec 8):=v.asInt none fun k n=>zab (eqK k .u8) (si8 n) none
def unb (l:List SV):Option (List (BitVec 8)):=List.rec (motive:=fun _=>Option (List (BitVec 8))) (some []) (fun v _ ih=>zah (zcJ v) none fun x=>zah ih none fun xs=>some (x::xs)) l
def qgd (l:List (BitVec 8)) (i:Nat):BitVec 8:=(l[i]?).getD 0#8
def qdh (X:Nat->BitVec 8):Nat->SV:=fun i=>.int .u8 (.b8 (X i))
def q0m (v:SV):BitVec 8:=SV.asInt v 0#8 fun _ n=>SI.rec (motive:=fun _=>BitVec 8) (fun n=>BitVec.ofInt 8 n) (fun _=>0#8) (fun x=>x) (fun _=>0#8) (fun _=>0#8) n
def IsB (g:Nat->SV):Prop:=∀ i,∃ x,g i=.int .u8 (.b8 x)
def noB (l:List SV):Nat->List Nat:=List.rec (motive:=fun _=>Nat->List Nat) (fun _=>[]) (fun v _ ih i=>zah (zcJ v) (i::ih (Nat.succ i)) fun _=>ih (Nat.succ i)) l
def qgg (o n:Nat) (J:List Nat):Prop:=List.rec (motive:=fun _=>Prop) True (fun j _ ih=>(j<o\/o+n<=j)/\ih) J
def qtv (l:List SV) (i:Nat):BitVec 8:=zah (nth l i) 0#8 fun v=>zah (zcJ v) 0#8 fun x=>x
def ze9 (o n:Nat) (Y:Nat->BitVec 8) (l:List SV):Nat->List SV:=List.rec (motive:=fun _=>Nat->List SV) (fun _=>[]) (fun v _ ih i=>zah (zcJ v) v (fun x=>.int .u8 (.b8 (if o<=i/\i<o+n then Y (i - o) else x)))::ih (Nat.succ i)) l
def qqj (c:Cells) (off n:Nat) (f:(Nat->BitVec 8)->R α):R α :=
 Cells.rec (motive:=fun _=>R α) (fun l=>zah (unb l) (.need (off+n<=zay l/\qgg off n (noB l 0)) (f fun i=>qtv l (off+i))) fun xs=>.need (off+n<=zay xs) (f fun i=>qgd xs (off+i))) (fun g m=>.need (off+n<=m/\IsB g) (f fun i=>q0m (g (off+i)))) (fun V m=>.need (off+n<=m/\∀ i,i<n->zdb (.i .u8) (V (off+i))) (f fun i=>BitVec.ofInt 8 (zfK (V (off+i))))) c
def zgx (X:Nat->BitVec 8) (l:Nat) (Y:Nat->BitVec 8):Nat->BitVec 8:=fun j=>if j<l then X j else Y (j - l)
def zi0 (l:List SV) (i:Nat) (f:SV->R α):R α:=zah (unb l) (.stuck 203) fun xs=>.need (i<zay xs) (f (.int .u8 (.b8 (qgd xs i))))
def zi4 (l:List SV) (o:Nat) (x:BitVec 8) (f:SV->R α):R α:=zah (unb l) (.stuck 203) fun xs=>zab (Nat.ble (o+256) (zay xs)) (f (.int .u8 (.b8 (qgd xs (o+x.toNat))))) (.need (o+x.toNat<zay xs) (f (.int .u8 (.b8 (qgd xs (o+x.toNat))))))
def qsq (c:Cells) (i:SN) (f:SV->R α):R α :=
 Cells.rec (motive:=fun _=>R α) (fun l=>SN.rec (motive:=fun _=>R α) (fun i=>R.opt 202 (nth l i) f) (fun i=>zi0 l i f) (fun o x=>zi4 l o x f) i) (fun g n=>zi3 g n i f) (fun V n=>.need (i.den<n) (f (.val (V i.den)))) c
def zh0 (l:List SV) (i:Nat) (v:List SV) (f:Cells->R α):R α:=zab (Nat.ble (Nat.add i (zay v)) (zay l)) (f (.lst (qoj l i v))) (.stuck 204)
def zh1 (g:Nat->SV) (n:Nat) (i:SN) (v:List SV) (f:Cells->R α):R α :=
 match v with
 | [x]=>.need (i.den<n) (f (.fn (fun j=>if j=i.den then x else g j) n))
 | v=>.need (i.den+zay v<=n) (f (.fn (fun j=>if i.den<=j then (nth v (j - i.den)).getD (g j) else g j) n))
def zgm (o n:Nat) (Y:Nat->BitVec 8) (xs:List (BitVec 8)):Nat->List (BitVec 8):=List.rec (motive:=fun _=>Nat->List (BitVec 8)) (fun _=>[]) (fun x _ ih k=>(if o<=k/\k<o+n then Y (k - o) else x)::ih (Nat.succ k)) xs
def zhv (c:Cells) (o n:Nat) (Y:Nat->BitVec 8) (f:Cells->R α):R α :=
 Cells.rec (motive:=fun _=>R α) (fun l=>zah (unb l) (.need (o+n<=zay l/\qgg o n (noB l 0)) (f (.lst (ze9 o n Y l 0)))) fun xs=>.need (o+n<=zay xs) (f (.lst (zas (fun x=>.int .u8 (.b8 x)) (zgm o n Y xs 0)))))
  (fun g m=>.need (o+n<=m/\IsB g) (f (.fn (qdh (fun p=>if o<=p/\p<o+n then Y (p - o) else q0m (g p))) m)))
  (fun V m=>.need (o+n<=m) (f (.raw (qch V o n fun p=>.int .u8 ((Y p).toNat:Int)) m))) c
def jii (l:List SV) (i:Nat) (x:SV) (f:Cells->R α):R α:=zah (zcJ x) (.stuck 205) fun b=>zhv (.lst l) i 1 (fun _=>b) f
def zhY (l:List SV) (i:Nat) (v:List SV) (f:Cells->R α):R α:=List.rec (motive:=fun _=>R α) (.stuck 205) (fun x r _=>List.rec (motive:=fun _=>R α) (jii l i x f) (fun _ _ _=>.stuck 205) r) v
def q72 (z:SV):Nat->SV:=zah (zcJ z) (fun _=>z) fun x=>qdh fun _=>x
def zhZ (V:Nat->Value) (n:Nat) (i:SN) (v:List SV) (f:Cells->R α):R α:=zah (qnc v) (.stuck 900) fun xs=>.need (i.den+zay xs<=n) (f (.raw (qch V i.den (zay xs) (atV xs)) n))
def qmo (c:Cells) (i:SN) (v:List SV) (f:Cells->R α):R α :=
 Cells.rec (motive:=fun _=>R α) (fun l=>i.za6 (zhY l i.den v f) fun i=>zh0 l i v f) (fun g n=>zh1 g n i v f) (fun V n=>zhZ V n i v f) c
def qno (c:Cells) (off n:Nat) (f:(Nat->Value)->R α):R α :=
 Cells.rec (motive:=fun _=>R α) (fun l=>zah (qnc l) (.stuck 901) fun xs=>.need (off+n<=zay xs) (f fun i=>atV xs (off+i))) (fun g m=>.need (off+n<=m/\∀ i,i<n->∃ x,zcX (g (off+i))=some x) (f fun i=>zah (zcX (g (off+i))) undef fun x=>x)) (fun V m=>.need (off+n<=m) (f fun i=>V (off+i))) c
def putR (c:Cells) (o n:Nat) (Y:Nat->Value) (f:Cells->R α):R α :=
 Cells.rec (motive:=fun _=>R α) (fun l=>zah (qnc l) (.stuck 903) fun xs=>.need (o+n<=zay xs) (f (.raw (qch (atV xs) o n Y) (zay xs)))) (fun g m=>.need (o+n<=m/\∀ i,i<m->∃ x,zcX (g i)=some x) (f (.raw (qch (fun i=>zah (zcX (g i)) undef fun x=>x) o n Y) m))) (fun V m=>.need (o+n<=m) (f (.raw (qch V o n Y) m))) c
inductive zai where
 | val (v:SV) (sets:List (Nat × SO)) (news:List SO)
 | enter (f:FuncId) (args:List SV)
 | round (nm:Nat) (args:List SV)
 | defer (d:SD)
 | panic (v:SV)
 | touch (v:SV) (nm:Nat)
def vR (v:SV):R zai:=.ok (.val v [] [])
def entry (H:List SO) (a:SA) (f:SO->R α):R α:=R.opt 206 (nth H a.nm) f
def rdNO (o:SO) (i:SN) (k:Nat) (f:List SV->R α):R α :=
 SO.rec (motive:=fun _=>R α) (fun c _ _=>qlo c i k f) (fun c=>qlo c i k f) (fun _ _ _ _ _ _ _ _=>.stuck 207) (fun _=>.stuck 207) (.stuck 207) (fun _=>.stuck 207) (fun _=>.stuck 207) o
def qoo (H:List SO) (a:SA) (k:Nat) (f:List SV->R α):R α:=entry H a fun o=>rdNO o a.off k f
def rd1O (o:SO) (i:SN) (f:SV->R α):R α :=
 SO.rec (motive:=fun _=>R α) (fun c _ _=>qsq c i f) (fun c=>qsq c i f) (fun _ _ _ _ _ _ _ _=>.stuck 208) (fun _=>.stuck 208) (.stuck 208) (fun _=>.stuck 208) (fun _=>.stuck 208) o
def q82 (H:List SO) (a:SA) (f:SV->R α):R α:=entry H a fun o=>rd1O o a.off f
def zjw (P:Program) (H:List SO) (t:TypeId) (a:SA) (f:SV->R α) (b:Bool):R α :=
 zab (zhu (nth H a.nm))
  (zab b (R.opt 210 (P.info? t) fun i=>qoo H a i.size fun l=>qrv P t l fun l=>f (.agg l)) (q82 H a fun v=>qsv P t v f))
  (zab b (R.opt 210 (P.info? t) fun i=>qoo H a i.size fun l=>f (.agg l)) (q82 H a f))
def q92 (P:Program) (H:List SO) (t:TypeId) (a:SA) (f:SV->R α):R α :=
 R.opt 209 (P.underlying t) fun d=>zjw P H t a f (qcc d)
def zaO (f:α->Bool) (l:List α):Bool:=List.rec (motive:=fun _=>Bool) true (fun a _ ih=>zab (f a) ih false) l
def wrO (o:SO) (a:SA) (l:List SV):R zai :=
 SO.rec (motive:=fun _=>R zai) (fun c w e=>List.rec (motive:=fun _=>R zai) (.ok (.touch qsa a.nm)) (fun _ _ _=>qmo c a.off l fun c=>.ok (.val qsa [(a.nm,.own c w e)] [])) l) (fun _=>.stuck 212) (fun _ _ _ _ _ _ _ _=>.stuck 212) (fun _=>.stuck 212) (.stuck 212) (fun _=>.stuck 212) (fun _=>.stuck 212) o
def qf1 (v:SV):Bool:=v.zc3 (qrh v) fun _=>true
def jji (H:List SO) (a:SA) (l:List SV) (n:Nat):R zai :=
 zab (Nat.beq (zay l) n) (zab (zaO qf1 l) (qmi l (entry H a fun o=>wrO o a l)) (.stuck 213)) (.stuck 214)
def jki (P:Program) (H:List SO) (t:TypeId) (a:SA) (v:SV):R zai :=
 R.opt 211 (P.info? t) fun i=>jji H a (qfg v) i.size
def qbi (P:Program) (t:TypeId):Option (List SV):=((P.info? t).bind (·.zero)).map fun v=>zas qik v.cells.toList
def qfl (place:Nat->Option (Nat × Nat)) (cells:List SV):List (Nat × SV)->Option (List SV)
 | []=>some cells
 | (i,v)::rest =>
   match place i with
   | none=>none
   | some (off,size)=>if zay (qfg v)≠size\/off+zay (qfg v) > zay cells then none else qfl place (qoj cells off (qfg v)) rest
def quv (P:Program) (t:TypeId) (l:List SV) (off:Nat) (f:SV->R α):R α :=
 R.opt 215 (P.underlying t) fun d =>
  if qcc d then R.opt 216 (P.info? t) fun i=>f (.agg (qta (qnb l off) i.size))
  else R.opt 217 (nth l off) f
def qlk (P:Program):List Field->Option (List (Nat × Nat))
 | []=>some []
 | f::r=>(P.info? f.type).bind fun i=>(qlk P r).map fun l=>(f.offset,i.size)::l
def qd6 (ev:Operand->SV) (ps:Array (Nat × Operand)):List (Nat × SV):=zas (fun p=>(p.1,ev p.2)) ps.toList
def jli (P:Program) (t:TypeId) (parts:List (Nat × SV)):R zai :=
 qmi (zas (fun p=>p.2) parts) <| R.opt 218 (P.underlying t) fun
  | .struct fields =>
    R.opt 219 (qbi P t) fun zero=>R.opt 220 (qlk P fields.toList) fun places =>
     R.opt 221 (qfl (nth places) zero parts) fun cells=>vR (.agg cells)
  | .array _ elem =>
    R.opt 219 (qbi P t) fun zero=>R.opt 220 (P.info? elem) fun i =>
     R.opt 221 (qfl (fun j=>some (j * i.size,i.size)) zero parts) fun cells=>vR (.agg cells)
  | _=>.stuck 222
def qvv (z:List SV) (n:Nat):List SV:=Nat.rec (motive:=fun _=>List SV) [] (fun _ ih=>app z ih) n
def qb0 (P:Program) (base:Nat) (t:TypeId) (len:Nat) (parts:List (Nat × SV)):R zai :=
 qmi (zas (fun p=>p.2) parts) <| R.opt 223 (P.underlying t) fun
  | .slice elem=>R.opt 224 (P.info? elem) fun i=>R.opt 225 (qbi P elem) fun zero =>
    if len * i.size > 2 ^ 24 then .stuck 226 else
    if zay zero≠i.size then .stuck 227 else
    R.opt 228 (qfl (fun j=>some (j * i.size,i.size)) (qvv zero len) parts) fun cells =>
     .ok (.val (.slice ⟨base,.lit 0⟩ (.lit len) (.lit len)) [] [.own (.lst cells) true elem])
  | _=>.stuck 229
def qa3 (P:Program) (base:Nat) (t:TypeId) (len cap:SV):R zai :=
 R.opt 230 (P.underlying t) fun
  | .slice elem=>R.opt 231 (P.info? elem) fun i=>R.opt 232 (qbi P elem) fun zero =>
    match len,cap with
    | .int .i64 (.lit l),.int .i64 (.lit c) =>
      if 0<=l/\l<=c/\c<1048577/\i.bytes<65537 then
       if zay zero≠i.size then .stuck 233 else
       .ok (.val (.slice ⟨base,.lit 0⟩ (.lit l.toNat) (.lit c.toNat)) [] [.own (.lst (qvv zero c.toNat)) true elem])
      else .stuck 234
    | .int .i64 l,.int .i64 c =>
      match zero with
      | [z]=>.need (0<=l.den/\l.den<=c.den/\c.den * i.bytes<=2 ^ 48/\c.den<=9223372036854775807/\i.size=1)
        (.ok (.val (.slice ⟨base,.lit 0⟩ l.toN (.sym c.den.toNat)) [] [.own (.fn (q72 z) c.den.toNat) true elem]))
      | zs=>R.opt 235 (qnc zs) fun xs=>.need (0<=l.den/\l.den<=c.den/\c.den * i.bytes<=2 ^ 48/\c.den<=9223372036854775807/\i.size=zay xs/\0<i.size)
        (.ok (.val (.slice ⟨base,.lit 0⟩ l.toN (.sym c.den.toNat)) [] [.own (.raw (fun j=>atV xs (j % zay xs)) (c.den.toNat * zay xs)) true elem]))
    | _,_=>.stuck 236
  | _=>.stuck 237
def zgn (v:SV) (f:SA->R α):R α:=v.zem (.stuck 238) f
def SA.plus (a:SA) (n:SN):SA:=⟨a.nm,a.off.add n⟩
def zgQ (e:SO) (n:Option Mem):Option Mem:=SO.rec (motive:=fun _=>Option Mem) (fun _ _ _=>n) (fun _=>n) (fun _ _ _ _ _ _ _ _=>n) (fun _=>n) n (fun _=>n) (fun m=>some m) e
def qci (H:List SO):Option Mem:=List.rec (motive:=fun _=>Option Mem) none (fun e _ ih=>zgQ e ih) H
def q1m (e:SO) (i:Nat) (n:Option (Nat × Mem)):Option (Nat × Mem):=SO.rec (motive:=fun _=>Option (Nat × Mem)) (fun _ _ _=>n) (fun _=>n) (fun _ _ _ _ _ _ _ _=>n) (fun _=>n) n (fun _=>n) (fun m=>some (i,m)) e
def qb3 (H:List SO):Option (Nat × Mem):=List.rec (motive:=fun _=>Nat->Option (Nat × Mem)) (fun _=>none) (fun e _ ih i=>q1m e i (ih (Nat.succ i))) H 0
def Mem.put (m:Mem) (b o n:Nat) (Y:Nat->Value):Mem:=⟨fun a=>if a.block=b/\a.spot=none/\o<=a.off/\a.off<o+n then some (Y (a.off - o)) else m.cell a,m.own,m.old⟩
def zaV (x:Value):Addr:=match x with | .pointer (some a)=>a | .slice (some a) _ _=>a | _=>⟨0,0,none⟩
def zaL (x:Value):Nat:=match x with | .slice _ l _=>l | _=>0
def zbY (x:Value):Nat:=match x with | .slice _ _ c=>c | _=>0
def zez (x:Value):Option Addr:=match x with | .slice a _ _=>a | _=>none
def zcH (x:Value):Prop:=x=.slice (zez x) (zaL x) (zbY x)
def qc3 (x:Value):Prop:=x=.pointer (some (zaV x))
def qhg (x:Value):Prop:=x=.slice (some (zaV x)) (zaL x) (zbY x)
def zcY (m:Mem) (a:Addr) (j:Nat):Value:=(m.cell (a.add j)).getD undef
def zi6 (v:SV) (g:Value->R α) (f:SA->R α):R α:=v.zem (v.zc3 (.stuck 238) g) f
def jmi (P:Program) (m:Mem) (t:TypeId) (a:Addr) (f:SV->R α) (b:Bool):R α :=
 zab b (R.opt 210 (P.info? t) fun i=>.need (∀ j,j<i.size->(m.cell (a.add j)).isSome=true) (qrv P t (zas (fun j=>.val (zcY m a j)) (qqa i.size 0)) fun l=>f (.agg l)))
  (.need ((m.cell a).isSome=true) (qsv P t (.val ((m.cell a).getD undef)) f))
def qd3 (P:Program) (H:List SO) (t:TypeId) (x:Value) (f:SV->R α):R α :=
 zah (qci H) (.stuck 950) fun m=>R.opt 209 (P.underlying t) fun d=>.need (qc3 x) (jmi P m t (zaV x) f (qcc d))
def qe3 (P:Program) (s:TypeId) (x:SV) (field:Nat):R zai :=
 R.opt 239 (P.underlying s) fun d=>TypeDesc.asSt d (.stuck 243) fun fields =>
  R.opt 240 (nth fields.toList field) fun f=>R.opt 241 (P.info? f.type) fun i =>
   zab (Nat.beq i.size 0) (.stuck 242) (zi6 x (fun v=>.need (qc3 v) (vR (.val (.pointer (some ((zaV v).add f.offset)))))) fun a=>vR (.ptr (a.plus (.lit f.offset))))
def jtc (P:Program) (x:SV) (i:SI) (n:Nat) (elem:TypeId):R zai:=zgn x fun a=>R.opt 245 (P.info? elem) fun e=>zes i (.lit n) fun j=>vR (.ptr (a.plus (j.mul e.size)))
def jni (P:Program) (a:SA) (n len:SN) (i:SI) (elem:TypeId):R zai:=R.opt 246 (P.info? elem) fun e=>zes i len fun j=>vR (.ptr ((a.plus n).plus (j.mul e.size)))
def zjC (P:Program) (x:Value) (i:SI) (elem:TypeId):R zai:=R.opt 246 (P.info? elem) fun e=>.need (qhg x) (zes i (.sym (zaL x)) fun j=>vR (.val (.pointer (some ((zaV x).add (j.mul e.size).den)))))
def juc (P:Program) (x:SV) (i:SI) (elem:TypeId):R zai:=x.asSlice (x.zc3 (.stuck 247) fun v=>zjC P v i elem) fun a len _=>R.opt 246 (P.info? elem) fun e=>zes i len fun j=>vR (.ptr (a.plus (j.mul e.size)))
def zjB (P:Program) (x:SV) (i:SI) (elem:TypeId):R zai :=
 match x with
 | .tail a n len _=>jni P a n len i elem
 | x=>juc P x i elem
def qtq (P:Program) (t:TypeId) (x index:SV):R zai :=
 R.opt 244 (P.underlying t) fun d=>index.asInt (.stuck 248) fun _ i=>TypeDesc.zgb d (TypeDesc.zga d (.stuck 247) (zjB P x i)) (jtc P x i)
def qe6 (P:Program) (t:TypeId) (x index:SV):R zai :=
 R.opt 249 (P.underlying t) fun d =>
  match index with
  | .int _ i =>
    match d,x with
    | .array n elem,.agg l=>R.opt 250 (P.info? elem) fun e=>zes i (.lit n) fun
      | .lit j=>quv P elem l (j * e.size) fun v=>vR v
      | _=>.stuck 251
    | .string,.str s =>
      match s,i with
      | .lit s,.lit i=>if 0<=i then R.opt 252 (nth s.data.toList i.toNat) fun b=>vR (.int .u8 (.lit (b.toNat:Int))) else .stuck 253
      | .bytes l,.lit i=>if 0<=i then R.opt 252 (nth l i.toNat) fun
        | .b8 b=>vR (.int .u8 (.b8 b))
        | b=>.need (0<=b.den/\b.den<256) (vR (.int .u8 b))
       else .stuck 253
      | s,i=>.need (0<=i.den/\i.den<(s.den.size:Int)) (vR (.int .u8 (.b8 (s.den.data.getD i.den.toNat 0).toBitVec)))
    | _,_=>.stuck 254
  | _=>.stuck 255
def qrb (v:Option SV) (y:SN) (d:SN) (f:SN->R α):R α :=
 match v with
 | none=>f d
 | some (.int _ i)=>bndS i y f
 | some _=>.stuck 256
def qwv:SC->Option SN
 | .lit n=>some (.lit n)
 | .sym n=>some (.sym n)
 | .rest _ _=>none
def SN.toC:SN->SC
 | .lit n=>.lit n
 | .sym n=>.sym n
 | .byt o x=>.sym (o+x.toNat)
def SC.less:SC->SN->Option SC
 | .lit c,.lit n=>some (.lit (c - n))
 | .lit c,.sym n=>some (.sym (c - n))
 | .lit c,.byt o x=>some (.sym (c - (o+x.toNat)))
 | .sym c,n=>some (.sym (c - n.den))
 | .rest nm k,.lit n=>some (.rest nm (k+n))
 | .rest nm k,.sym n=>some (.rest nm (k+n))
 | .rest _ _,.byt _ _=>none
def mxOk (hi mx:Option SV):Bool:=zah mx true fun _=>zah hi false fun _=>true
def zif (a:SA) (n h:SN) (c:SC) (same:Bool):R zai:=.fork same (vR (.slice a h c)) (vR (.slice (a.plus n) h c))
def jvc (n:Nat) (a:SA) (e:TypeInfo) (lo hi mx:Option SV):R zai :=
 qrb mx (.lit n) (.lit n) fun m=>qrb hi m (.lit n) fun h=>qrb lo h (.lit 0) fun l =>
  match m,l with
  | .lit m',.lit l'=>vR (.slice (if m'=l' then a else a.plus (.lit (l' * e.size))) (h.sub l) (.lit (m' - l')))
  | m,.lit 0=>vR (.slice a h m.toC)
  | m,l=>zif a (l.mul e.size) (h.sub l) (.sym (m.den - l.den)) (decide (m.den=l.den))
def zih (a:SA) (c:SN) (e:TypeInfo) (lo hi mx:Option SV):R zai :=
 qrb mx c c fun m=>qrb hi m m fun h=>qrb lo h (.lit 0) fun l =>
  match m,l with
  | .lit m',.lit l'=>vR (.slice (if m'=l' then a else a.plus (.lit (l' * e.size))) (h.sub l) (.lit (m' - l')))
  | m,.lit 0=>vR (.slice a h m.toC)
  | m,l=>zif a (l.mul e.size) (h.sub l) (.sym (m.den - l.den)) (decide (m.den=l.den))
def sl3 (a:SA) (len:SN) (cap:SC) (e:TypeInfo) (lo hi mx:Option SV):R zai:=zah (qwv cap) (zih a len e lo hi mx) fun c=>zih a c e lo hi mx
def qnw (a:SA) (len:SN) (size:Nat) (h l:SN) (c':SC):R zai :=
 l.za6 (vR (.tail a (l.mul size) (h.sub l) c')) fun x=>len.za6 (vR (.tail a (l.mul size) (h.sub l) c')) fun y =>
  zab (Nat.blt x y) (vR (.slice (a.plus (l.mul size)) (h.sub l) c')) (vR (.tail a (l.mul size) (h.sub l) c'))
def zie (a:SA) (len:SN) (size:Nat) (h l:SN) (c':SC):R zai:=(h.sub l).za6 (qnw a len size h l c') fun d=>zab (Nat.blt 0 d) (vR (.slice (a.plus (l.mul size)) (h.sub l) c')) (qnw a len size h l c')
def sl2 (a:SA) (len:SN) (cap:SC) (e:TypeInfo) (lo hi:Option SV):R zai :=
 qrb hi len len fun h=>qrb lo h (.lit 0) fun l =>
  match l with
  | .lit 0=>vR (.slice a h cap)
  | l=>match cap,l with
    | .lit c,.lit l'=>vR (.slice (if c=l' then a else a.plus (.lit (l' * e.size))) (h.sub l) (.lit (c - l')))
    | cap,l=>R.opt 263 (cap.less l) fun c'=>zie a len e.size h l c'
def qf3 (s:za8) (lo hi:Option SV):R zai :=
 match s with
 | .lit s=>qrb hi (.lit s.size) (.lit s.size) fun h=>qrb lo h (.lit 0) fun l =>
   match l,h with
   | .lit l,.lit h=>vR (.str (.lit (s.extract l h)))
   | l,h=>vR (.str (.sym (s.extract l.den h.den)))
 | .bytes b=>qrb hi (.lit (zay b)) (.lit (zay b)) fun h=>qrb lo h (.lit 0) fun l =>
   match l,h with
   | .lit l,.lit h=>vR (.str (.bytes (qta (qnb b l) (h - l))))
   | _,_=>.stuck 265
 | .sym s=>qrb hi (.sym s.size) (.sym s.size) fun h=>qrb lo h (.lit 0) fun l=>vR (.str (.sym (s.extract l.den h.den)))
def q2m (A:Addr) (e:TypeInfo) (m h l:Nat):R zai:=vR (.val (.slice (some (if m=l then A else A.add (l * e.size))) (h - l) (m - l)))
def jwc (A:Addr) (L C:Nat) (e:TypeInfo) (lo hi mx:Option SV):R zai :=
 zah mx (qrb hi (.sym L) (.sym L) fun h=>qrb lo h (.lit 0) fun l=>q2m A e C h.den l.den) fun _=>qrb mx (.sym C) (.sym C) fun m=>qrb hi m m fun h=>qrb lo h (.lit 0) fun l=>q2m A e m.den h.den l.den
def joi (P:Program) (t:TypeId) (x:SV) (lo hi mx:Option SV):R zai :=
 R.opt 257 (P.underlying t) fun d=>zab (mxOk hi mx)
  (match d,x with
  | .array n elem,.ptr a=>R.opt 258 (P.info? elem) fun e=>jvc n a e lo hi mx
  | .slice elem,.slice a len cap=>R.opt 260 (P.info? elem) fun e=>zah mx (sl2 a len cap e lo hi) fun _=>sl3 a len cap e lo hi mx
  | .slice elem,.tail a n len cap=>.need (0<len.den) (R.opt 260 (P.info? elem) fun e=>zah mx (sl2 (a.plus n) len cap e lo hi) fun _=>sl3 (a.plus n) len cap e lo hi mx)
  | .slice elem,.val y=>R.opt 260 (P.info? elem) fun e=>.need (qhg y/\zaL y<=zbY y) (jwc (zaV y) (zaL y) (zbY y) e lo hi mx)
  | .slice elem,.zad=>R.opt 260 (P.info? elem) fun _=>qrb mx (.lit 0) (.lit 0) fun m=>qrb hi m (.lit 0) fun h=>qrb lo h (.lit 0) fun _=>vR .zad
  | .string,.str s=>zah mx (qf3 s lo hi) fun _=>.stuck 264
  | _,_=>.stuck 266)
  (.stuck 262)
def zhn:SV->Option SI
 | .int .u8 n=>some n
 | _=>none
def qgl (l:List SV):Option (List SI):=List.rec (motive:=fun _=>Option (List SI)) (some []) (fun a _ ih=>match zhn a with | some n=>ih.map (n :: ·) | none=>none) l
def SV.num:SV->Int
 | .int _ n=>n.den
 | _=>0
def qpo (f:Nat->SV) (off len:Nat):ByteArray:=⟨((List.range len).map fun i=>UInt8.ofNat (f (off+i)).num.toNat).toArray⟩
def jpi:SV->Prop
 | .int .u8 _=>True
 | _=>False
def qqo (l:List SI):Option (List UInt8):=List.rec (motive:=fun _=>Option (List UInt8)) (some []) (fun a _ ih=>a.za6 none fun n=>zah ih none fun r=>some (UInt8.ofNat n.toNat::r)) l
def q3m (l:List SI):za8:=zah (qqo l) (.bytes l) fun b=>.lit ⟨b.toArray⟩
theorem quq:∀ {l:List SI} {b:List UInt8},qqo l=some b->b=l.map fun i=>UInt8.ofNat i.den.toNat
 | [],b,h=>by cases h; rfl
 | a::l,b,h=>by
   have h:(a.za6 none fun n=>zah (qqo l) none fun r=>some (UInt8.ofNat n.toNat::r))=some b:=h;cases a with
   | lit n =>
     have h:(zah (qqo l) none fun r=>some (UInt8.ofNat n.toNat::r))=some b:=h;cases hr:qqo l with
     | none=>rw [hr] at h; cases h
     | some r =>
       rw [hr] at h;cases h;rw [quq hr]; rfl
   | _=>cases h
theorem qvq (l:List SI):(q3m l).den=qfc l:=by
 unfold q3m;cases h:qqo l with
 | none=>rfl
 | some b=>rw [quq h]; rfl
def qwq (c:Cells) (off len:SN):R zai :=
 match c with
 | .lst l=>match off,len with
   | .lit o,.lit n =>
     if zay (qta (qnb l o) n)=n then R.opt 267 (qgl (qta (qnb l o) n)) fun b=>vR (.str (q3m b)) else .stuck 268
   | off,len=>zah (unb l) (.stuck 269) fun xs=>.need (off.den+len.den<=zay xs) (vR (.str (.sym (qpo (qdh (qgd xs)) off.den len.den))))
 | .fn f n=>.need (off.den+len.den<=n/\∀ i,i<n->jpi (f i)) (vR (.str (.sym (qpo f off.den len.den))))
 | .raw _ _=>.stuck 905
def qow (e:SO) (off len:SN):R zai :=
 match e with
 | .own c _ _=>qwq c off len
 | .row c=>qwq c off len
 | _=>.stuck 270
def qpw (H:List SO) (x:SV):R zai :=
 match x with
 | .zad=>vR (.str (.lit .empty))
 | .slice a len _=>entry H a fun e=>qow e a.off len
 | .tail a n len _=>entry H a fun e=>qow e (a.off.add n) len
 | _=>.stuck 271
def qro (s:ByteArray):Nat->SV:=fun i=>.int .u8 (.b8 (s.data.getD i 0).toBitVec)
def qi9 (base:Nat) (elem:TypeId) (s:za8):R zai :=
 match s with
 | .lit s=>.ok (.val (.slice ⟨base,.lit 0⟩ (.lit s.size) (.rest base 0)) [] [.own (.lst (zas (fun (b:UInt8)=>.int .u8 (.lit (b.toNat:Int))) s.data.toList)) false elem])
 | .bytes l=>.need (∀ i∈l,0<=i.den/\i.den<256) (.ok (.val (.slice ⟨base,.lit 0⟩ (.lit (zay l)) (.rest base 0)) [] [.own (.lst (zas (fun i=>.int .u8 i) l)) false elem]))
 | .sym s=>.ok (.val (.slice ⟨base,.lit 0⟩ (.sym s.size) (.rest base 0)) [] [.own (.fn (qro s) s.size) false elem])
def qqw (P:Program) (base:Nat) (elem:TypeId) (s:za8):R zai :=
 R.opt 279 (P.info? elem) fun i=>zab (Nat.beq i.size 1) (qi9 base elem s) (.stuck 279)
def jxc (P:Program) (H:List SO) (src dst e:TypeId) (a:SA) (l:SN) (c:SC):R zai :=
 zab (Nat.beq src dst) (R.opt 826 (P.underlying e) fun
  | .int .u8=>entry H a fun
    | .own _ _ _=>.ok (.touch (.slice a l c) a.nm)
    | _=>.stuck 827
  | _=>.stuck 828) (.stuck 829)
def zkt (P:Program) (H:List SO) (base:Nat) (src dst:TypeId) (x:SV):R zai :=
 R.opt 272 (P.underlying src) fun s=>R.opt 273 (P.underlying dst) fun d =>
  match s,d,x with
  | .int _,.int k,.int _ n=>vR (.int k (jrc k n))
  | .string,.string,.str s=>vR (.str s)
  | .string,.slice e,.str s=>R.opt 274 (P.underlying e) fun
    | .int .u8=>qqw P base e s
    | _=>.stuck 275
  | .slice _,.slice e,.slice a l c=>jxc P H src dst e a l c
  | .slice e,.string,x=>R.opt 276 (P.underlying e) fun
    | .int .u8=>qpw H x
    | _=>.stuck 277
  | _,_,_=>.stuck 278
def qso (s:ByteArray):List SI:=zas (fun (b:UInt8)=>.lit (b.toNat:Int)) s.data.toList
def qxq (l m:List SI):R zai:=if zay l+zay m<=9223372036854775807 then vR (.str (q3m (app l m))) else .stuck 279
def jyc (op:BinOp) (a b:za8):R zai :=
 match op with
 | .eql=>match a,b with
   | .lit a,.lit b=>vR (.bool (.lit (a.data.toList == b.data.toList)))
   | a,b=>vR (.bool (.sym (decide (a.den=b.den))))
 | .neq=>match a,b with
   | .lit a,.lit b=>vR (.bool (.lit (!(a.data.toList == b.data.toList))))
   | a,b=>vR (.bool (.sym (!decide (a.den=b.den))))
 | .lss=>match a,b with
   | .lit a,.lit b=>vR (.bool (.lit (Op.bytesLess a.data.toList b.data.toList)))
   | a,b=>vR (.bool (.sym (Op.bytesLess a.den.data.toList b.den.data.toList)))
 | .geq=>match a,b with
   | .lit a,.lit b=>vR (.bool (.lit (!Op.bytesLess a.data.toList b.data.toList)))
   | a,b=>vR (.bool (.sym (!Op.bytesLess a.den.data.toList b.den.data.toList)))
 | .leq=>match a,b with
   | .lit a,.lit b=>vR (.bool (.lit (Op.bytesLess a.data.toList b.data.toList || a.data.toList == b.data.toList)))
   | a,b=>vR (.bool (.sym (Op.bytesLess a.den.data.toList b.den.data.toList || decide (a.den=b.den))))
 | .gtr=>match a,b with
   | .lit a,.lit b=>vR (.bool (.lit (!(Op.bytesLess a.data.toList b.data.toList || a.data.toList == b.data.toList))))
   | a,b=>vR (.bool (.sym (!(Op.bytesLess a.den.data.toList b.den.data.toList || decide (a.den=b.den)))))
 | .add=>match a,b with
   | .lit a,.lit b=>if a.size+b.size<=9223372036854775807 then vR (.str (.lit (a++b))) else .stuck 279
   | .lit a,.bytes m=>qxq (qso a) m
   | .bytes l,.lit b=>qxq l (qso b)
   | .bytes l,.bytes m=>qxq l m
   | a,b=>.need (a.den.size+b.den.size<=9223372036854775807) (vR (.str (.sym (a.den++b.den))))
 | _=>.stuck 280
def qg3 (x y:SV):Option Bool :=
 match x,y with
 | .nilPtr,.nilPtr=>some true
 | .ptr _,.nilPtr | .nilPtr,.ptr _=>some false
 | .nilFunc,.nilFunc=>some true
 | .func _ _ _,.nilFunc | .nilFunc,.func _ _ _=>some false
 | .zad,.zad=>some true
 | .slice _ _ _,.zad | .zad,.slice _ _ _=>some false
 | .tail _ _ _ _,.zad | .zad,.tail _ _ _ _=>some false
 | .zau,.zau=>some true
 | .map _,.zau | .zau,.map _=>some false
 | _,_=>none
def qmt:TypeDesc->SV->SV->Bool
 | .pointer _,.nilPtr,.nilPtr | .pointer _,.ptr _,.nilPtr | .pointer _,.nilPtr,.ptr _=>true
 | .func _ _ _,.nilFunc,.nilFunc | .func _ _ _,.func _ _ _,.nilFunc | .func _ _ _,.nilFunc,.func _ _ _=>true
 | .slice _,.zad,.zad | .slice _,.slice _ _ _,.zad | .slice _,.zad,.slice _ _ _=>true
 | .slice _,.tail _ _ _ _,.zad | .slice _,.zad,.tail _ _ _ _=>true
 | .map _ _,.zau,.zau | .map _ _,.map _,.zau | .map _ _,.zau,.map _=>true
 | _,_,_=>false
def jqi:SV->SV->Option SB
 | .int _ (.lit a),.int _ (.lit b)=>some (.lit (a == b))
 | .int _ a,.int _ b=>some (.sym (a.den == b.den))
 | .bool (.lit a),.bool (.lit b)=>some (.lit (a == b))
 | .bool a,.bool b=>some (.sym (a.den == b.den))
 | .str (.lit a),.str (.lit b)=>some (.lit (a.data.toList == b.data.toList))
 | .str a,.str b=>some (.sym (decide (a.den=b.den)))
 | _,_=>none
inductive CK where
 | b | i | s
def q1f (g:TypeId->Option (List CK)):List Field->Nat->Option (List CK)
 | [],_=>some []
 | f::r,off=>(g f.type).bind fun ks=>if f.offset=off/\f.name ≠ "_" then (q1f g r (off+zay ks)).map fun l=>app ks l else none
def qyq (P:Program) (t:TypeId) (l:List CK):Option (List CK):=(P.info? t).bind fun i=>if i.size=zay l then some l else none
def q2b (P:Program):Nat->TypeId->Option (List CK)
 | 0,_=>none
 | d+1,t=>(P.underlying t).bind fun
   | .bool=>some [.b]
   | .int _=>some [.i]
   | .string=>some [.s]
   | .array n e=>(q2b P d e).bind fun ks=>(P.info? e).bind fun i=>if i.size=zay ks then qyq P t (zgj ks n) else none
   | .struct fs=>if P.stoodInHeld t then none else (q1f (fun e=>q2b P d e) fs.toList 0).bind fun l=>qyq P t l
   | _=>none
def eqSI (x y:SI):SB:=x.za6 (.sym (x.den == y.den)) fun a=>y.za6 (.sym (x.den == y.den)) fun b=>.lit (eqI a b)
def eqSB (x y:SB):SB:=SB.rec (motive:=fun _=>SB) (fun a=>SB.rec (motive:=fun _=>SB) (fun b=>.lit (a == b)) (fun b=>.sym (a == b)) y) (fun a=>.sym (a == y.den)) x
def eqSS (x y:za8):SB :=
 match x,y with
 | .lit a,.lit b=>.lit (a.data.toList == b.data.toList)
 | a,b=>.sym (decide (a.den=b.den))
def zkK (x y:SB):SB:=SB.rec (motive:=fun _=>SB) (fun a=>zab a y (.lit false)) (fun a=>SB.rec (motive:=fun _=>SB) (fun b=>zab b (.sym a) (.lit false)) (fun b=>.sym (a && b)) y) x
def q4m (k:CK) (a b:SV):Option SB :=
 match k,a,b with
 | .i,.int k x,.int k' y=>zab (eqK k k') (some (eqSI x y)) none
 | .b,.bool x,.bool y=>some (eqSB x y)
 | .s,.str x,.str y=>some (eqSS x y)
 | _,_,_=>none
def q0d:List CK->List SV->List SV->Option SB
 | [],[],[]=>some (.lit true)
 | k::ks,a::az,b::bs=>(q4m k a b).bind fun x=>(q0d ks az bs).map fun y=>zkK x y
 | _,_,_=>none
def jzc (P:Program) (op:BinOp) (t:TypeId) (l m:List SV):R zai :=
 R.opt 829 (P.underlying t) fun d=>zab (qcc d) (R.opt 830 (q2b P 8 t) fun ks=>R.opt 831 (q0d ks l m) fun b=>match op with
  | .eql=>vR (.bool b)
  | .neq=>SB.rec (motive:=fun _=>R zai) (fun b=>vR (.bool (.lit (!b)))) (fun b=>vR (.bool (.sym (!b)))) b
  | _=>.stuck 832) (.stuck 833)
def zkA (op:BinOp) (k:IntKind) (a:SI) (_k':IntKind) (b:SI):R zai:=(q95 op k a b).bind fun n=>vR (.int k n)
def zkB (op:BinOp) (k:IntKind) (a:SI) (k':IntKind) (b:SI):R zai:=zab (eqK k k') ((divS op k a b).bind fun n=>vR (.int k n)) (.stuck 281)
def zfB (op:BinOp) (k:IntKind) (a:SI) (k':IntKind) (b:SI):R zai:=zab (eqK k k') ((qkk op k a b).bind fun n=>vR (.int k n)) (.stuck 281)
def zf8 (op:BinOp) (k:IntKind) (a:SI) (k':IntKind) (b:SI):R zai:=zab (eqK k k') ((zf6 op a b).bind fun b=>vR (.bool b)) (.stuck 281)
def j0c (op:BinOp):IntKind->SI->IntKind->SI->R zai :=
 BinOp.rec (motive:=fun _=>IntKind->SI->IntKind->SI->R zai) (zfB .add) (zfB .sub) (zfB .mul) (zkB .quo) (zkB .rem) (zfB .and) (zfB .or) (zfB .xor) (zkA .shl) (zkA .shr) (zfB .andNot) (zf8 .eql) (zf8 .neq) (zf8 .lss) (zf8 .leq) (zf8 .gtr) (zf8 .geq) op
def qf6 (P:Program) (op:BinOp) (t:TypeId) (a b:SB):R zai :=
 R.opt 282 (P.underlying t) fun
  | .bool=>match op with
    | .eql=>match jqi (.bool a) (.bool b) with | some b=>vR (.bool b) | none=>.stuck 283
    | .neq=>match a,b with
      | .lit a,.lit b=>vR (.bool (.lit (!(a == b))))
      | a,b=>vR (.bool (.sym (!(a.den == b.den))))
    | _=>.stuck 284
  | _=>.stuck 285
def j1c (P:Program) (op:BinOp) (t:TypeId) (x y:SV):R zai :=
 R.opt 286 (P.underlying t) fun d =>
  match qmt d x y with
  | true=>R.opt 287 (qg3 x y) fun b=>match op with
    | .eql=>vR (.bool (.lit b))
    | .neq=>vR (.bool (.lit (!b)))
    | _=>.stuck 288
  | false=>.stuck 289
def qzq (P:Program) (op:BinOp) (t:TypeId) (x y:SV):R zai :=
 match x,y with
 | .str a,.str b=>jyc op a b
 | .bool a,.bool b=>qf6 P op t a b
 | .agg l,.agg m=>jzc P op t l m
 | x,y=>j1c P op t x y
def binT (P:Program) (op:BinOp) (t:TypeId) (x y:SV):R zai :=
 x.asInt (qzq P op t x y) fun k a=>y.asInt (qzq P op t x y) fun k' b=>j0c op k a k' b
def unT (op:UnOp) (x:SV):R zai :=
 match op,x with
 | .not,.bool (.lit b)=>vR (.bool (.lit (!b)))
 | .not,.bool b=>vR (.bool (.sym (!b.den)))
 | .neg,.int k n=>(qkk .sub k (.lit 0) n).bind fun n=>vR (.int k n)
 | .xor,.int .u8 n=>(qkk .xor .u8 (.lit 255) n).bind fun n=>vR (.int .u8 n)
 | .xor,.int .u32 n=>(qkk .xor .u32 (.lit 4294967295) n).bind fun n=>vR (.int .u32 n)
 | .xor,.int .u64 n=>(qkk .xor .u64 (.lit 18446744073709551615) n).bind fun n=>vR (.int .u64 n)
 | _,_=>.stuck 290
def qhl (H:List SO) (size:Nat) (x:SV) (n:SN) (f:List SV->R α):R α :=
 match x,n with
 | .zad,_=>f []
 | .slice a _ _,.lit n=>qoo H a (n * size) f
 | .tail a k _ _,.lit n=>qoo H (a.plus k) (n * size) f
 | .str (.lit s),.lit n=>zab (Nat.beq size 1) (f (zas (fun (b:UInt8)=>.int .u8 (.lit (b.toNat:Int))) (qta s.data.toList n))) (.stuck 291)
 | .str (.bytes l),.lit n=>zab (Nat.beq size 1) (.need (∀ i∈l,0<=i.den/\i.den<256) (f (zas (fun i=>.int .u8 i) (qta l n)))) (.stuck 291)
 | _,_=>.stuck 291
def zfv (x:SV) (f:SN->R α):R α :=
 match x with
 | .zad=>f (.lit 0)
 | .slice _ n _=>f n
 | .tail _ _ n _=>f n
 | .str (.lit s)=>f (.lit s.size)
 | .str (.bytes l)=>f (.lit (zay l))
 | .str (.sym s)=>f (.sym s.size)
 | .val y=>.need (zcH y) (f (.sym (zaL y)))
 | _=>.stuck 292
def zhJ (H:List SO) (a:SA) (n:SN) (f:(Nat->SV)->R α):R α :=
 entry H a fun
  | .own (.fn g m) _ _=>.need (a.off.den+n.den<=m) (f fun i=>g (a.off.den+i))
  | .row (.fn g m)=>.need (a.off.den+n.den<=m) (f fun i=>g (a.off.den+i))
  | .own (.lst l) _ _=>zah (unb l) (.need (a.off.den+n.den<=zay l) (f fun i=>(nth l (a.off.den+i)).getD qsa)) fun xs=>.need (a.off.den+n.den<=zay xs) (f (qdh fun i=>qgd xs (a.off.den+i)))
  | .row (.lst l)=>zah (unb l) (.need (a.off.den+n.den<=zay l) (f fun i=>(nth l (a.off.den+i)).getD qsa)) fun xs=>.need (a.off.den+n.den<=zay xs) (f (qdh fun i=>qgd xs (a.off.den+i)))
  | _=>.stuck 293
def zkg (H:List SO) (x:SV) (f:(Nat->SV)->R α):R α :=
 match x with
 | .zad=>f fun _=>.int .u8 (.lit 0)
 | .slice a n _=>zhJ H a n f
 | .tail a k n _=>zhJ H (a.plus k) n f
 | .str s=>f (qro s.den)
 | _=>.stuck 294
def q7e (n bytes:Nat):Prop:=n * bytes<140737488355328/\n<140737488355328
def qve (P:Program) (argTypes:Array TypeId):Bool :=
 match argTypes[1]? with
 | some xt=>match P.underlying xt with
   | some (.slice _)=>true
   | some .string=>true
   | _=>false
 | none=>true
def j2c (base:Nat) (elem:TypeId) (n:Nat) (l:List SV):R zai:=.ok (.val (.slice ⟨base,.lit 0⟩ (.lit n) (.rest base 0)) [] [.own (.lst l) false elem])
def j3c (H:List SO) (base:Nat) (elem:TypeId) (size:Nat) (a:SA) (len c n:Nat) (new:List SV):R zai :=
 zab (Nat.ble (len+n) c)
  (zab (Nat.beq n 0) (vR (.slice a (.lit len) (.lit c)))
   (zab (zaO qrh new) (entry H a fun e=>match e with
    | .own cl w el=>qmo cl (a.off.add (.lit (len * size))) new fun cl=>.ok (.val (.slice a (.lit (len+n)) (.lit c)) [(a.nm,.own cl w el)] [])
    | _=>.stuck 299) (.stuck 300)))
  (qoo H a (len * size) fun old=>j2c base elem (len+n) (app old new))
def qg6 (H:List SO) (base:Nat) (elem:TypeId) (size:Nat) (a:SA) (len nm k n:Nat) (new:List SV):R zai :=
 zab (Nat.beq n 0) (vR (.slice a (.lit len) (.rest nm k)))
  (zab (zaO qrh new) (zab (Nat.beq a.nm nm) (zab (Nat.beq k 0) (a.off.za6 (.stuck 303) fun o=>zab (Nat.beq o 0)
   (entry H a fun e=>match e with
    | .own (.lst l) _ el=>zab (Nat.beq el elem) (zab (Nat.ble (len * size) (zay l))
      (.ok (.val (.slice ⟨base,.lit 0⟩ (.lit (len+n)) (.rest base 0)) [(a.nm,.gone)] [.own (.lst (app (qta l (len * size)) new)) false elem])) (.stuck 303)) (.stuck 301)
    | _=>.stuck 302) (.stuck 303)) (.stuck 303)) (.stuck 303)) (.stuck 300))
def qg1 (H:List SO) (base:Nat) (elem:TypeId) (size len n:Nat) (s:SV) (new:List SV):R zai :=
 match s with
 | .zad=>zab (Nat.beq n 0) (vR .zad) (j2c base elem n new)
 | .slice a _ (.lit c)=>j3c H base elem size a len c n new
 | .slice a _ (.rest nm k)=>qg6 H base elem size a len nm k n new
 | _=>.stuck 305
def apFn (base:Nat) (elem:TypeId) (size bytes:Nat) (n:SN) (s:SV) (g:Nat->SV):R zai :=
 match s with
 | .zad=>.fork (decide (n.den=0)) (.need (size=1) (vR .zad)) (.need (q7e n.den bytes/\size=1) (.ok (.val (.slice ⟨base,.lit 0⟩ n (.rest base 0)) [] [.own (.fn g n.den) false elem])))
 | .slice a _ (.lit 0)=>.fork (decide (n.den=0)) (.need (size=1) (vR (.slice a (.lit 0) (.lit 0)))) (.need (q7e n.den bytes/\size=1) (.ok (.val (.slice ⟨base,.lit 0⟩ n (.rest base 0)) [] [.own (.fn g n.den) false elem])))
 | _=>.stuck 307
def j4c (e:SO) (off n:Nat) (f:(Nat->BitVec 8)->R α):R α :=
 SO.rec (motive:=fun _=>R α) (fun c _ _=>qqj c off n f) (fun c=>qqj c off n f) (fun _ _ _ _ _ _ _ _=>.stuck 771) (fun _=>.stuck 771) (.stuck 771) (fun _=>.stuck 771) (fun _=>.stuck 771) e
def qzi (H:List SO) (x:SV) (n:SN) (f:(Nat->BitVec 8)->R α):R α :=
 match x with
 | .zad=>f fun _=>0#8
 | .slice a _ _=>entry H a fun e=>j4c e a.off.den n.den f
 | .tail a k _ _=>entry H a fun e=>j4c e (a.off.den+k.den) n.den f
 | .str s=>f fun i=>(s.den.data.getD i 0).toBitVec
 | _=>.stuck 772
def catR (base:Nat) (elem:TypeId) (sets:List (Nat × SO)) (len n:SN) (X Y:Nat->BitVec 8):R zai :=
 .ok (.val (.slice ⟨base,.lit 0⟩ (len.add n) (.rest base 0)) sets [.own (.fn (qdh (zgx X len.den Y)) (len.den+n.den)) false elem])
def qnt (H:List SO) (base:Nat) (elem:TypeId) (size bytes:Nat) (a:SA) (nm k:Nat) (len n:SN) (Y:Nat->BitVec 8):R zai :=
 zab (Nat.beq a.nm nm) (zab (Nat.beq k 0) (a.off.za6 (.stuck 773) fun o=>zab (Nat.beq o 0) (entry H a fun e=>match e with
  | .own cl _ el=>zab (Nat.beq el elem) (qqj cl 0 len.den fun X=>.need (q7e (len.den+n.den) bytes/\size=1) (catR base elem [(a.nm,.gone)] len n X Y)) (.stuck 773)
  | _=>.stuck 773) (.stuck 773)) (.stuck 773)) (.stuck 773)
def q0p (H:List SO) (base:Nat) (elem:TypeId) (size bytes:Nat) (s:SV) (c:SN) (len n:SN) (Y:Nat->BitVec 8):R zai :=
 qzi H s len fun X=>.need (c.den<len.den+n.den/\q7e (len.den+n.den) bytes/\size=1) (catR base elem [] len n X Y)
def qxv (H:List SO) (base:Nat) (elem:TypeId) (size bytes:Nat) (a:SA) (l:SN) (c:SC) (len n:SN) (x:SV):R zai :=
 qzi H x n fun Y=>SC.rec (motive:=fun _=>R zai) (fun c'=>q0p H base elem size bytes (.slice a l (.lit c')) (.lit c') len n Y) (fun c'=>q0p H base elem size bytes (.slice a l (.sym c')) (.sym c') len n Y) (fun nm k=>qnt H base elem size bytes a nm k len n Y) c
def rawE (e:SO) (off n:Nat) (f:(Nat->Value)->R α):R α :=
 SO.rec (motive:=fun _=>R α) (fun c _ _=>qno c off n f) (fun c=>qno c off n f) (fun _ _ _ _ _ _ _ _=>.stuck 906) (fun _=>.stuck 906) (.stuck 906) (fun _=>.stuck 906) (fun _=>.stuck 906) e
def zgk (H:List SO) (x:SV) (n:Nat) (f:(Nat->Value)->R α):R α :=
 match x with
 | .zad=>f fun _=>undef
 | .slice a _ _=>entry H a fun e=>rawE e a.off.den n f
 | .tail a k _ _=>entry H a fun e=>rawE e (a.off.den+k.den) n f
 | .val y=>zah (qci H) (.stuck 907) fun m=>.need (zcH y/\(zez y=none->zaL y=0)/\∀ j,j<n->(m.cell ((zaV y).add j)).isSome=true) (f (zcY m (zaV y)))
 | _=>.stuck 907
def rawX (H:List SO) (x:SV):Bool :=
 match x with
 | .slice a _ _=>zhu (nth H a.nm)
 | .tail a _ _ _=>zhu (nth H a.nm)
 | .val _=>true
 | _=>false
def q0q (c:Cells) (off n:Nat) (f:(Nat->SV)->R α):R α :=
 Cells.rec (motive:=fun _=>R α) (fun l=>.need (off+n<=zay l) (f fun i=>(nth l (off+i)).getD qsa)) (fun g m=>.need (off+n<=m) (f fun i=>g (off+i))) (fun V m=>.need (off+n<=m) (f fun i=>.val (V (off+i)))) c
def mixE (e:SO) (off n:Nat) (f:(Nat->SV)->R α):R α :=
 SO.rec (motive:=fun _=>R α) (fun c _ _=>q0q c off n f) (fun c=>q0q c off n f) (fun _ _ _ _ _ _ _ _=>.stuck 906) (fun _=>.stuck 906) (.stuck 906) (fun _=>.stuck 906) (fun _=>.stuck 906) e
def zjo (H:List SO) (x:SV) (n:Nat) (f:(Nat->SV)->R α):R α :=
 match x with
 | .slice a _ _=>entry H a fun e=>mixE e a.off.den n f
 | .val y=>zah (qci H) (.stuck 907) fun m=>.need (zcH y/\(zez y=none->zaL y=0)/\∀ j,j<n->(m.cell ((zaV y).add j)).isSome=true) (f fun j=>.val (zcY m (zaV y) j))
 | _=>.stuck 907
def zfA (X:Nat->SV) (l:Nat) (Y:Nat->SV):Nat->SV:=fun j=>if j<l then X j else Y (j - l)
def zfd (v:SV):Prop:=v.zc3 (qrh v=true) fun x=>x.oneCell'=true
def zkd (l:List SV):Bool:=List.rec (motive:=fun _=>Bool) false (fun v _ ih=>v.asSlice (v.zem ih fun _=>true) fun _ _ _=>true) l
def zjs (o:Option SO):Bool:=zah o false fun e=>match e with | .own (.lst l) _ _=>zkd l | _=>false
def fnO (o:Option SO):Bool:=zah o false fun e=>match e with | .own (.fn _ _) _ _=>true | _=>false
def mixX (H:List SO) (a:SA) (x:SV):Bool:=zah (qci H) false fun _=>zab (fnO (nth H a.nm)) true (x.asSlice false fun b _ _=>zjs (nth H b.nm))
def qot (H:List SO) (base:Nat) (elem:TypeId) (size bytes:Nat) (a:SA) (nm k:Nat) (len n:SN) (x:SV):R zai :=
 zjo H x (n.den * size) fun Y=>zab (Nat.beq a.nm nm) (zab (Nat.beq k 0) (a.off.za6 (.stuck 908) fun o=>zab (Nat.beq o 0) (entry H a fun e=>match e with
  | .own cl _ el=>zab (Nat.beq el elem) (q0q cl 0 (len.den * size) fun X=>.need (q7e (len.den+n.den) bytes/\∀ i,i<n.den * size->zfd (Y i))
    (.ok (.val (.slice ⟨base,.lit 0⟩ (len.add n) (.rest base 0)) [(a.nm,.gone)] [.own (.fn (zfA X (len.den * size) Y) ((len.den+n.den) * size)) false elem]))) (.stuck 908)
  | _=>.stuck 908) (.stuck 908)) (.stuck 908)) (.stuck 908)
def zhS (base:Nat) (elem:TypeId) (size:Nat) (sets:List (Nat × SO)) (len n:SN) (X Y:Nat->Value):R zai :=
 .ok (.val (.slice ⟨base,.lit 0⟩ (len.add n) (.rest base 0)) sets [.own (.raw (zc5 X (len.den * size) Y) ((len.den+n.den) * size)) false elem])
def qpt (H:List SO) (base:Nat) (elem:TypeId) (size bytes:Nat) (a:SA) (nm k:Nat) (len n:SN) (Y:Nat->Value):R zai :=
 zab (Nat.beq a.nm nm) (zab (Nat.beq k 0) (a.off.za6 (.stuck 908) fun o=>zab (Nat.beq o 0) (entry H a fun e=>match e with
  | .own cl _ el=>zab (Nat.beq el elem) (qno cl 0 (len.den * size) fun X=>.need (q7e (len.den+n.den) bytes/\∀ i,i<n.den * size->(Y i).oneCell'=true) (zhS base elem size [(a.nm,.gone)] len n X Y)) (.stuck 908)
  | _=>.stuck 908) (.stuck 908)) (.stuck 908)) (.stuck 908)
def q1p (H:List SO) (base:Nat) (elem:TypeId) (size bytes:Nat) (a:SA) (l:SN) (sc:SC) (c:Nat) (len n:SN) (Y:Nat->Value):R zai :=
 .fork (decide (len.den+n.den<=c))
  (entry H a fun e=>match e with
   | .own cl w el=>putR cl (a.off.den+len.den * size) (n.den * size) Y fun cl=>.need (∀ i,i<n.den * size->(Y i).oneCell'=true) (.ok (.val (.slice a (len.add n) sc) [(a.nm,.own cl w el)] []))
   | _=>.stuck 909)
  (zgk H (.slice a l sc) (len.den * size) fun X=>.need (q7e (len.den+n.den) bytes) (zhS base elem size [] len n X Y))
def qh6 (H:List SO) (base:Nat) (elem:TypeId) (size bytes:Nat) (a:SA) (l:SN) (len n:SN) (Y:Nat->Value):R zai :=
 .fork (decide (len.den+n.den<=0)) (vR (.slice a (.lit 0) (.lit 0)))
  (zgk H (.slice a l (.lit 0)) (len.den * size) fun X=>.need (q7e (len.den+n.den) bytes) (zhS base elem size [] len n X Y))
def qts (H:List SO) (elem:TypeId) (size:Nat) (y:Value) (n:SN) (Y:Nat->Value):R zai :=
 zah (qb3 H) (.stuck 911) fun p=>.need ((∃ k cap,p.2.own (zaV y).block=some (k,cap,elem)/\zbY y<=cap)/\zaV y=⟨(zaV y).block,0,none⟩/\∀ i,i<n.den * size->(Y i).oneCell'=true)
  (.ok (.val (.val (.slice (some (zaV y)) (zaL y+n.den) (zbY y))) [(p.1,.mem (p.2.put (zaV y).block (zaL y * size) (n.den * size) Y))] []))
def qil (H:List SO) (base:Nat) (elem:TypeId) (size bytes:Nat) (len n:SN) (s x:SV):R zai :=
 zgk H x (n.den * size) fun Y=>match s with
  | .zad=>.fork (decide (n.den=0)) (vR .zad) (.need (q7e n.den bytes) (.ok (.val (.slice ⟨base,.lit 0⟩ n (.rest base 0)) [] [.own (.raw Y (n.den * size)) false elem])))
  | .slice a _ (.rest nm k)=>qpt H base elem size bytes a nm k len n Y
  | .slice a l (.lit c)=>zab (Nat.beq c 0) (qh6 H base elem size bytes a l len n Y) (q1p H base elem size bytes a l (.lit c) c len n Y)
  | .slice a l (.sym c)=>q1p H base elem size bytes a l (.sym c) c len n Y
  | .val y=>.need (qhg y) (.fork (decide (len.den+n.den<=zbY y)) (qts H elem size y n Y) (zgk H (.val y) (len.den * size) fun X=>.need (q7e (len.den+n.den) bytes) (zhS base elem size [] len n X Y)))
  | _=>.stuck 910
def j5c (H:List SO) (base:Nat) (elem:TypeId) (size bytes:Nat) (isb:Bool) (len n:SN) (s x:SV):R zai :=
 match s with
 | .slice a l (.lit (c+1))=>zab isb (qxv H base elem size bytes a l (.lit (c+1)) len n x) (qil H base elem size bytes len n (.slice a l (.lit (c+1))) x)
 | .slice a l (.sym c)=>zab isb (zab (rawX H (.slice a l (.sym c))) (qil H base elem size bytes len n (.slice a l (.sym c)) x) (qxv H base elem size bytes a l (.sym c) len n x)) (qil H base elem size bytes len n (.slice a l (.sym c)) x)
 | .slice a l (.rest nm k)=>zab isb (qxv H base elem size bytes a l (.rest nm k) len n x) (zab (mixX H a x) (qot H base elem size bytes a nm k len n x) (qil H base elem size bytes len n (.slice a l (.rest nm k)) x))
 | .val y=>qil H base elem size bytes len n (.val y) x
 | s=>zab (rawX H x) (qil H base elem size bytes len n s x) (zkg H x fun g=>apFn base elem size bytes n s g)
def zhC (z:List SV):Bool:=match z with | [.int .u8 (.lit 0)]=>true | _=>false
def qni (P:Program) (H:List SO) (base:Nat) (argTypes:Array TypeId) (s x:SV):R zai :=
 R.opt 295 argTypes[0]? fun st=>R.opt 296 (P.underlying st) fun d=>TypeDesc.zga d (.stuck 308) fun elem =>
  R.opt 297 (P.info? elem) fun e=>zab (qve P argTypes)
   (R.opt 297 (qbi P elem) fun z=>zab (Nat.beq (zay z) e.size)
    (zfv x fun n=>zfv s fun len =>
     match len,n with
     | .lit len,.lit n=>zab (Nat.blt ((len+n) * e.bytes) 140737488355328) (zab (Nat.blt (len+n) 140737488355328)
       (qhl H e.size x (.lit n) fun new=>qg1 H base elem e.size len n s new) (.stuck 306)) (.stuck 306)
     | len,n=>j5c H base elem e.size e.bytes (zhC z) len n s x)
    (.stuck 298))
   (.stuck 298)
def q1d (n:Nat):ByteArray:=⟨Array.replicate n 0⟩
def qrw (P:Program) (t:TypeId):Bool:=zah (P.underlying t) false fun d=>match d with | .int _=>true | _=>false
def qh1 (P:Program) (H:List SO) (base:Nat) (st:TypeId) (bytes:Nat) (s:SV) (len:SN) (n:SI):R zai :=
 n.za6 (.need (0<=n.den/\q7e (len.den+n.den.toNat) bytes) (qni P H base #[st] s (.str (.sym (q1d n.den.toNat))))) fun m=>zdp m
  (fun m=>len.za6 (.need (q7e (len.den+m) bytes) (qni P H base #[st] s (.str (.lit (q1d m))))) fun l=>zab (Nat.blt ((l+m) * bytes) 140737488355328) (zab (Nat.blt (l+m) 140737488355328) (qni P H base #[st] s (.str (.lit (q1d m)))) (.stuck 824)) (.stuck 824))
  (fun _=>.stuck 824)
def jge (P:Program) (H:List SO) (base:Nat) (argTypes:Array TypeId) (s x:SV):R zai :=
 R.opt 820 argTypes[0]? fun st=>R.opt 820 argTypes[1]? fun tn=>zab (qrw P tn)
  (R.opt 821 (P.underlying st) fun d=>TypeDesc.zga d (.stuck 821) fun elem=>R.opt 821 (P.info? elem) fun e=>R.opt 821 (qbi P elem) fun z=>zab (zhC z) (zab (Nat.beq e.size 1)
   (zfv s fun len=>x.asInt (.stuck 822) fun _ n=>qh1 P H base st e.bytes s len n) (.stuck 823)) (.stuck 823)) (.stuck 825)
def qi1 (P:Program) (H:List SO) (base:Nat) (argTypes:Array TypeId) (s x:SV):R zai:=zab (qve P argTypes) (qni P H base argTypes s x) (jge P H base argTypes s x)
def q1q (H:List SO) (d x:SV) (m:SN) (g:R zai->R zai):R zai :=
 match d with
 | .slice a _ _=>qzi H x m fun Y=>g (entry H a fun e=>match e with
   | .own cl w el=>zhv cl a.off.den m.den Y fun cl=>.ok (.val (.int .i64 m.toI) [(a.nm,.own cl w el)] [])
   | _=>.stuck 315)
 | _=>.stuck 315
def jri (H:List SO) (d:SV):Bool :=
 match d with
 | .slice a _ _=>zah (nth H a.nm) false fun e=>match e with | .own (.lst l) _ _=>zah (unb l) true fun _=>false | _=>false
 | _=>false
def qh3 (H:List SO) (d x:SV) (len n:SN):R zai :=
 zab (jri H d) (.fork (decide (n.den<=len.den)) (q1q H d x n fun r=>r) (q1q H d x len fun r=>r)) (q1q H d x n fun r=>.need (n.den<=len.den) r)
def j6c (P:Program) (H:List SO) (argTypes:Array TypeId) (d x:SV):R zai :=
 R.opt 309 argTypes[0]? fun dt=>R.opt 310 (P.underlying dt) fun
  | .slice elem=>R.opt 311 (P.info? elem) fun e =>
    zfv x fun n=>zfv d fun len =>
     match len,n with
     | .lit len',.lit n' =>
       let m:=Nat.min n' len'
       qhl H e.size x (.lit m) fun new =>
        match d with
        | .zad=>vR (.int .i64 (.lit (m:Int)))
        | .slice a _ _ =>
          match m with
          | 0=>vR (.int .i64 (.lit 0))
          | _=>match zaO qrh new with
            | true=>entry H a fun
              | .own cl w el=>qmo cl a.off new fun cl=>.ok (.val (.int .i64 (.lit (m:Int))) [(a.nm,.own cl w el)] [])
              | _=>.stuck 312
            | false=>.stuck 313
        | _=>.stuck 314
     | len,n=>zab (Nat.beq e.size 1) (qh3 H d x len n) (.stuck 315)
  | _=>.stuck 316
def zdn (P:Program) (argTypes:Array TypeId) (x:SV):R zai :=
 R.opt 317 argTypes[0]? fun t=>R.opt 318 (P.underlying t) fun d =>
  match d,x with
  | .string,.str s=>zfv (.str s) fun n=>vR (.int .i64 n.toI)
  | .array n _,_=>vR (.int .i64 (.lit (n:Int)))
  | .slice _,.slice _ n _=>vR (.int .i64 n.toI)
  | .slice _,.tail _ _ n _=>vR (.int .i64 n.toI)
  | .slice _,.val x=>.need (zcH x) (vR (.int .i64 (.sym (zaL x:Int))))
  | .slice _,.zad=>vR (.int .i64 (.lit 0))
  | .map _ _,.zau=>vR (.int .i64 (.lit 0))
  | _,_=>.stuck 319
abbrev OpF:=Program->(Operand->SV)->List SO->Nat->R zai
def zbD (n:Nat) (l:List Nat):Bool:=List.rec (motive:=fun _=>Bool) false (fun a _ ih=>zab (Nat.beq a n) true ih) l
def qfe (v:SV):List SV:=v.asAgg [v] fun l=>l
def zgS (H:List SO) (v:SV) (nil:R α) (f:Nat->List (SV × SV × Nat)->Nat->R α):R α :=
 match v with
 | .zau=>nil
 | .map nm=>match nth H nm with
   | some (.obj (.map es c))=>f nm es c
   | _=>.stuck 850
 | _=>.stuck 851
def zfV (H:List SO) (v:SV) (nil:R α) (f:Nat->List (SV × SV × Nat)->Nat->R α) (g:Nat->MSh->MSh->List MapEntry->Nat->R α):R α :=
 match v with
 | .zau=>nil
 | .map nm=>match nth H nm with
   | some (.obj (.map es c))=>f nm es c
   | some (.obj (.zaU ks vs es c))=>g nm ks vs es c
   | _=>.stuck 850
 | _=>.stuck 851
def ze3 (k:SK) (v:SV):Bool :=
 match k,v with
 | .i .u8,.int .u8 n=>zah (si8 n) false fun _=>true
 | .i .u32,.int .u32 (.b32 _)=>true
 | .i .u64,.int .u64 (.b64 _)=>true
 | .i .i64,.int .i64 _=>true
 | .b,.bool _=>true
 | .s,.str _=>true
 | _,_=>false
def qrj:List SK->List SV->Bool
 | [],[]=>true
 | k::ks,v::l=>zab (ze3 k v) (qrj ks l) false
 | _,_=>false
def qjl (s:MSh) (v:SV):Option Value :=
 zab s.agg (v.asAgg none fun l=>zab (qrj s.cells l) ((qnc l).map fun xs=>.agg xs.toArray) none) (match s.cells with | [k]=>zab (ze3 k v) (zcX v) none | _=>none)
def zjy (ks:List SK) (v:SV):Option Value:=match ks with | [.v]=>zcX v | _=>none
def zhB (s:MSh) (v:SV):Option Value:=zah (qjl s v) (zab s.agg none (zjy s.cells v)) some
def qvc (K:Value) (e:MapEntry):Bool:=@decide (e.key=K) (Classical.propDecidable _)
def zi8 (es:List MapEntry) (K:Value):Option Nat:=es.findIdx? (qvc K)
def za5 (es:List MapEntry) (K:Value):Bool:=es.any (qvc K)
def zbM (es:List MapEntry) (K:Value):Value:=((es.find? (qvc K)).map (·.val)).getD undef
def zdL (es:List MapEntry) (K V:Value):List MapEntry:=zah (zi8 es K) es fun i=>zah (es[i]?) es fun e=>es.set i ⟨K,V,e.born⟩
def zcI (es:List MapEntry) (c:Nat) (K V:Value):List MapEntry:=es++[⟨K,V,c⟩]
def zkn (es:List MapEntry) (K:Value):List MapEntry:=es.eraseP (qvc K)
def zfE (v:SV):Bool:=v.asAgg false fun _=>true
def qkl (ks:List CK) (k v:SV):Option SB:=zab (zfE k == zfE v) (q0d ks (qfe k) (qfe v)) none
def qsj (ks:List CK) (k:SV) (yes:Nat->SV × SV × Nat->R α) (no:R α) (es:List (SV × SV × Nat)):Nat->R α :=
 List.rec (motive:=fun _=>Nat->R α) (fun _=>no) (fun e _ ih i=>zah (qkl ks k e.1) (.stuck 852) fun b=>SB.rec (motive:=fun _=>R α) (fun b=>zab b (yes i e) (ih (Nat.succ i))) (fun b=>.fork b (yes i e) (ih (Nat.succ i))) b) es
def qyv (P:Program) (t:TypeId):Option SV:=((P.info? t).bind (·.zero)).map qoq
def zgU (P:Program) (t:TypeId) (k:SV) (f:TypeId->List CK->R α):R α :=
 R.opt 853 (P.underlying t) fun
  | .map kt et=>R.opt 854 (P.underlying kt) fun d=>R.opt 855 (q2b P 8 kt) fun ks=>R.opt 856 (qkl ks k k) fun _=>zab (qcc d == zfE k) (f et ks) (.stuck 857)
  | _=>.stuck 858
def q2p (t:TypeId) (r:Option Operand):OpF:=fun P ev _ base=>match r with
 | none=>.ok (.val (.map base) [] [.obj (.map [] 0)])
 | some h=>match ev h with
   | .int _ _=>R.opt 859 (P.underlying t) fun
     | .map _ _=>.ok (.val (.map base) [] [.obj (.map [] 0)])
     | _=>.stuck 860
   | _=>.stuck 861
def okT (ok:Bool) (v:SV) (b:Bool):SV:=zab ok (.tuple [v,.bool (.lit b)]) v
def qj1 (t:TypeId) (x k:Operand) (ok:Bool):OpF:=fun P ev H _ =>
 zgU P t (ev k) fun et ks=>R.opt 862 (qyv P et) fun z=>zfV H (ev x) (vR (okT ok z false)) (fun _ es _=>qsj ks (ev k) (fun _ e=>vR (okT ok e.2.1 true)) (vR (okT ok z false)) es 0)
  fun _ kS vS es _=>R.opt 920 (qjl kS (ev k)) fun K=>.fork (za5 es K) (vR (okT ok (vS.see (zbM es K)) true)) (vR (okT ok z false))
def zi5 (nm:Nat) (kS vS:MSh) (es:List MapEntry) (c:Nat):R zai:=.ok (.val qsa [(nm,.obj (.zaU kS vS es c))] [])
def zgl (nm:Nat) (es:List (SV × SV × Nat)) (c:Nat):R zai:=.ok (.val qsa [(nm,.obj (.map es c))] [])
def qig (t:TypeId) (m k x:Operand):OpF:=fun P ev H _ =>
 zgU P t (ev k) fun _ ks=>zfV H (ev m) (.stuck 863) (fun nm es c=>qsj ks (ev k) (fun i e=>zgl nm (zbv es i (ev k,ev x,e.2.2)) c) (zgl nm (app es [(ev k,ev x,c)]) (Nat.succ c)) es 0)
  fun nm kS vS es c=>R.opt 920 (qjl kS (ev k)) fun K=>zah (zhB vS (ev x)) (.ok (.val qsa [(nm,.gone)] [])) fun V=>.fork (za5 es K) (zi5 nm kS vS (zdL es K V) c) (zi5 nm kS vS (zcI es c K V) (c+1))
def qqt (t:TypeId) (m k:Operand):OpF:=fun P ev H _ =>
 zgU P t (ev k) fun et ks=>R.opt 862 (qyv P et) fun z=>zgS H (ev m) (.stuck 863) fun nm es c =>
  qsj ks (ev k) (fun i e=>.ok (.val (.tuple [e.2.1,.int .i64 (.lit (Int.ofNat e.2.2))]) [(nm,.obj (.map (zbv es i (ev k,e.2.1,e.2.2)) c))] []))
   (.ok (.val (.tuple [z,.int .i64 (.lit (Int.ofNat c))]) [(nm,.obj (.map (app es [(ev k,z,c)]) (Nat.succ c)))] [])) es 0
def q3p (b:Nat) (yes:Nat->SV × SV × Nat->R α) (es:List (SV × SV × Nat)):Nat->R α :=
 List.rec (motive:=fun _=>Nat->R α) (fun _=>.stuck 864) (fun e _ ih i=>zab (Nat.beq e.2.2 b) (yes i e) (ih (Nat.succ i))) es
def qip (_t:TypeId) (m s x:Operand):OpF:=fun _ ev H _ =>
 zgS H (ev m) (.stuck 865) fun nm es c=>match ev s with
  | .int _ (.lit (.ofNat b))=>q3p b (fun i e=>zgl nm (zbv es i (e.1,ev x,e.2.2)) c) es 0
  | _=>.stuck 866
def qi6 {β:Type} (l:List β):Nat->List β :=
 List.rec (motive:=fun _=>Nat->List β) (fun _=>[]) (fun a t ih n=>Nat.rec (motive:=fun _=>List β) t (fun m _=>a::ih m) n) l
def qk1 (P:Program) (H:List SO) (argTypes:Array TypeId) (m k:SV):R zai :=
 R.opt 867 argTypes[0]? fun t=>zgU P t k fun _ ks=>zfV H m (vR (.tuple [])) (fun nm es c=>qsj ks k (fun i _=>zgl nm (qi6 es i) c) (zgl nm es c) es 0)
  fun nm kS vS es c=>R.opt 920 (qjl kS k) fun K=>zi5 nm kS vS (zkn es K) c
def qj6 (P:Program) (H:List SO) (argTypes:Array TypeId) (m:SV):R zai :=
 R.opt 868 argTypes[0]? fun t=>R.opt 869 (P.underlying t) fun
  | .map _ _=>zgS H m (vR (.tuple [])) fun nm _ c=>zgl nm [] c
  | _=>.stuck 870
def zjx (P:Program) (H:List SO) (argTypes:Array TypeId) (x:SV):R zai :=
 match x with
 | .map nm=>R.opt 871 argTypes[0]? fun t=>R.opt 872 (P.underlying t) fun
   | .map _ _=>zfV H (.map nm) (.stuck 873) (fun _ es _=>vR (.int .i64 (.lit (Int.ofNat (zay es))))) fun _ _ _ es _=>vR (.int .i64 (.sym (Int.ofNat es.length)))
   | _=>.stuck 874
 | x=>zdn P argTypes x
def zgP (base:Nat) (o:zaW):R zai:=.ok (.val (.ptr ⟨base,.lit 0⟩) [] [.obj o])
def qk6 (t:TypeId) (x:Operand):OpF:=fun P ev H base =>
 R.opt 875 (P.underlying t) fun
  | .string=>match ev x with
    | .str s=>zgP base (.str s 0)
    | _=>.stuck 876
  | .map _ _=>zfV H (ev x) (zgP base (.iter none 0 [] 0)) (fun nm _ c=>zgP base (.iter (some nm) c [] c)) fun nm _ _ _ c=>zgP base (.iter (some nm) c [] c)
  | _=>.stuck 877
def qxg {β:Type} (f:β->Bool) (l:List β):List β:=List.rec (motive:=fun _=>List β) [] (fun a _ ih=>zab (f a) (a::ih) ih) l
def qdi (es:List (SV × SV × Nat)) (seen:List Nat):List (SV × SV × Nat):=qxg (fun e=>zab (zbD e.2.2 seen) false true) es
def zgp (l:List (SV × SV × Nat)) (since:Nat):List (SV × SV × Nat):=qxg (fun e=>Nat.blt e.2.2 since) l
def zjk (l:List (SV × SV × Nat)) (since:Nat):List (SV × SV × Nat):=qxg (fun e=>Nat.ble since e.2.2) l
def zfU {β:Type} (l:List β):Bool:=List.rec (motive:=fun _=>Bool) true (fun _ _ _=>false) l
def qzv (l:List (SV × SV × Nat)) (since:Nat):List (Option (SV × SV × Nat)) :=
 app (zab (zfU (zgp l since)) [none] []) (zas (fun e=>some e) (app (zgp l since) (zjk l since)))
def qi3 (f:Option (SV × SV × Nat)->R zai) (l:List (Option (SV × SV × Nat))):Nat->Nat->R zai :=
 List.rec (motive:=fun _=>Nat->Nat->R zai) (fun _ _=>.stuck 878) (fun a r ih n i=>List.rec (motive:=fun _=>R zai) (f a) (fun _ _ _=>.fork (decide (n=i)) (f a) (ih n (Nat.succ i))) r) l
def oneM (f:Option (SV × SV × Nat)->R zai) (l:List (Option (SV × SV × Nat))):R zai :=
 List.rec (motive:=fun _=>R zai) (.stuck 879) (fun a r _=>List.rec (motive:=fun _=>R zai) (f a) (fun _ _ _=>.any fun z=>qi3 f l (z 0) 0) r) l
def zdN:R zai:=vR (.tuple [.bool (.lit false)])
def qj3 (es:List (SV × SV × Nat)) (seen:List Nat) (last:Nat):Bool :=
 zab (zfU seen) false (zab (zfU es) false (zaO (fun e=>Nat.ble last e.2.2) es))
def qwa (es:List MapEntry) (seen:List Nat):List MapEntry:=es.filter fun e => !seen.contains e.born
def qwd (l:List MapEntry) (n:Nat):MapEntry:=(l[n % l.length]?).getD ⟨undef,undef,0⟩
def qk3 (es:List MapEntry) (seen:List Nat) (last:Nat):Prop:=seen≠[]/\es≠[]/\∀ e∈es,last<=e.born
def zjj (it m since:Nat) (seen:List Nat) (last:Nat) (kS vS:MSh) (es:List MapEntry) (c:Nat):R zai :=
 .need (¬ qk3 es seen last/\∀ e∈es,e.born<since) (.fork (qwa es seen).isEmpty zdN (.any fun z =>
  .ok (.val (.tuple [.bool (.lit true),kS.see (qwd (qwa es seen) (z 0)).key,vS.see (qwd (qwa es seen) (z 0)).val]) [(it,.obj (.iter (some m) since (app seen [(qwd (qwa es seen) (z 0)).born]) c))] [])))
def ql3 (H:List SO) (it m since:Nat) (seen:List Nat) (last:Nat):R zai :=
 match nth H m with
 | some (.obj (.zaU kS vS es c))=>zjj it m since seen last kS vS es c
 | some (.obj (.map es c))=>zab (qj3 es seen last) (.stuck 880) (oneM (fun o=>zah o zdN fun e =>
   .ok (.val (.tuple [.bool (.lit true),e.1,e.2.1]) [(it,.obj (.iter (some m) since (app seen [e.2.2]) c))] [])) (qzv (qdi es seen) since))
 | _=>.stuck 881
def qm3 (it:Nat) (s:za8) (pos:Nat):R zai :=
 match s with
 | .lit b=>zab (Nat.blt pos b.size) (.ok (.val (.tuple [.bool (.lit true),.int .i64 (.lit (Int.ofNat pos)),.int .i32 (.lit (Utf8.decode b pos).1)]) [(it,.obj (.str s (pos+(Utf8.decode b pos).2)))] [])) zdN
 | s=>.fork (decide (pos<s.den.size)) (.ok (.val (.tuple [.bool (.lit true),.int .i64 (.sym (Int.ofNat pos)),.int .i32 (.sym (Utf8.decode s.den pos).1)]) [(it,.obj (.str s (pos+(Utf8.decode s.den pos).2)))] [])) zdN
def j7c (x:Operand) (isString:Bool):OpF:=fun _ ev H _ =>
 zgn (ev x) fun a=>a.off.za6 (.stuck 882) fun o=>zab (Nat.beq o 0) (match nth H a.nm with
  | some (.obj (.iter none _ _ _))=>zab isString (.stuck 883) zdN
  | some (.obj (.iter (some m) since seen last))=>zab isString (.stuck 883) (ql3 H a.nm m since seen last)
  | some (.obj (.str s pos))=>zab isString (qm3 a.nm s pos) (.stuck 883)
  | _=>.stuck 884) (.stuck 885)
def qn3 (l:List Nat):Option Nat:=List.rec (motive:=fun _=>Option Nat) none (fun a r ih=>List.rec (motive:=fun _=>Option Nat) (some a) (fun _ _ _=>ih) r) l
def qo3 (s:Nat) (f:SV × SV × Nat->R α) (es:List (SV × SV × Nat)):R α:=List.rec (motive:=fun _=>R α) (.stuck 888) (fun e _ ih=>zab (Nat.beq e.2.2 s) (f e) ih) es
def qse (seen:List Nat):Nat:=(seen.getLast?).getD 0
def zec (es:List MapEntry) (s:Nat):MapEntry:=(es.find? fun e=>e.born == s).getD ⟨undef,undef,0⟩
def jsi (kS vS:MSh) (es:List MapEntry) (c:Nat) (seen:List Nat) (stepped:Nat):R zai :=
 .need (c=stepped/\seen≠[]/\∃ e∈es,e.born=qse seen) (vR (.tuple [kS.see (zec es (qse seen)).key,vS.see (zec es (qse seen)).val]))
def ql6 (H:List SO) (m:Nat) (seen:List Nat) (stepped:Nat):R zai :=
 match nth H m with
 | some (.obj (.zaU kS vS es c))=>jsi kS vS es c seen stepped
 | some (.obj (.map es c))=>zab (Nat.beq c stepped) (zah (qn3 seen) (.stuck 887) fun s=>qo3 s (fun e=>vR (.tuple [e.1,e.2.1])) es) (.stuck 889)
 | _=>.stuck 890
def qm6 (x:Operand):OpF:=fun _ ev H _ =>
 zgn (ev x) fun a=>a.off.za6 (.stuck 886) fun o=>zab (Nat.beq o 0) (match nth H a.nm with
  | some (.obj (.iter (some m) _ seen stepped))=>ql6 H m seen stepped
  | _=>.stuck 891) (.stuck 885)
def min2 (x y:SV):R SV :=
 match x,y with
 | .int k (.lit a),.int _ (.lit b)=>.ok (.int k (.lit (if b<a then b else a)))
 | .int k a,.int _ b=>.fork (decide (b.den<a.den)) (.ok (.int k b)) (.ok (.int k a))
 | _,_=>.stuck 320
def max2 (x y:SV):R SV :=
 match x,y with
 | .int k (.lit a),.int _ (.lit b)=>.ok (.int k (.lit (if a<b then b else a)))
 | .int k a,.int _ b=>.ok (.int k (.sym (if a.den<b.den then b.den else a.den)))
 | _,_=>.stuck 321
def q4p (P:Program) (H:List SO) (base:Nat) (b:Builtin) (argTypes:Array TypeId) (args:List SV):R zai :=
 match b,args with
 | .len,x::_=>zjx P H argTypes x
 | .delete,[m,k]=>qk1 P H argTypes m k
 | .clear,[m]=>qj6 P H argTypes m
 | .append,[s,x]=>qi1 P H base argTypes s x
 | .copy,[d,x]=>j6c P H argTypes d x
 | .min,[x,y]=>(min2 x y).bind fun v=>vR v
 | .max,[x,y]=>(max2 x y).bind fun v=>vR v
 | _,_=>.stuck 322
def jti (g:Fn) (first args captured:List SV):R zai :=
 Fn.rec (motive:=fun _=>R zai) (fun g=>.ok (.enter g (app first (app args captured)))) (fun _=>.stuck 323) (fun _ _=>.stuck 323) (fun _ _ _ _=>.stuck 323) (fun _=>.stuck 323) g
def qtj (f:SV) (args:List SV):R zai :=
 f.zed (.stuck 324) fun fn first captured=>SFn.rec (motive:=fun _=>R zai) (fun g=>jti g first args captured) (fun nm=>.ok (.round nm (app first args))) fn
def zgF (P:Program) (path:List FieldStep) (g:FuncId) (args:List SV):R zai :=
 match path,args with
 | [s],.agg l::rest=>match s.deref with
   | true=>.stuck 842
   | false=>R.opt 343 (P.underlying s.struct) fun
     | .struct fields=>R.opt 344 (nth fields.toList s.index) fun f=>R.opt 345 (P.underlying f.type) fun
       | .pointer _=>quv P f.type l f.offset fun v=>.ok (.enter g (v::rest))
       | _=>.stuck 846
     | _=>.stuck 847
 | _,_=>.stuck 848
def qus (P:Program) (t:TypeId) (name:String) (args:List SV):R zai :=
 R.opt 349 (P.underlying t) fun
  | .struct _=>R.opt 350 (P.info? t) fun i=>R.opt 351 (i.methods.find? (·.name == name)) fun m=>match m.func with
    | some (g,true)=>zgF P m.path.toList g args
    | _=>.stuck 852
  | _=>.stuck 853
def qp3 (P:Program) (f:SV) (args:List SV):R zai :=
 match f with
 | .func (.fn (.via _ path g true)) first _=>zgF P path.toList g (app first args)
 | .func (.fn (.methodOf t name)) first _=>qus P t name (app first args)
 | f=>qtj f args
def zkj (t:Nat) (_glob:Nat->Option Nat) (T:List SV):SV:=zah (nth T t) qsa fun v=>v
def jhe (v:Value) (_glob:Nat->Option Nat) (_T:List SV):SV:=qoq v
def qjg (g:Nat) (glob:Nat->Option Nat) (_T:List SV):SV :=
 match glob g with
 | some nm=>.ptr ⟨nm,.lit 0⟩
 | none=>.val (.pointer (some ⟨g,0,none⟩))
def jui (f:FuncId) (_glob:Nat->Option Nat) (_T:List SV):SV:=.func (.fn (.func f)) [] []
def evO (x:Operand):(Nat->Option Nat)->List SV->SV:=Operand.rec (motive:=fun _=>(Nat->Option Nat)->List SV->SV) zkj jhe qjg jui x
def evS (glob:Nat->Option Nat) (T:List SV) (x:Operand):SV:=evO x glob T
def nilFn (g:SFn) (x:SV):R zai:=SFn.rec (motive:=fun _=>R zai) (fun g=>Fn.rec (motive:=fun _=>R zai) (fun _=>vR x) (fun _=>.stuck 325) (fun _ _=>vR x) (fun _ _ _ _=>vR x) (fun _=>vR x) g) (fun _=>vR x) g
def jie (x:SV):R zai :=
 match x with
 | .slice a l c=>vR (.slice a l c)
 | .tail a n l c=>vR (.tail a n l c)
 | .func g xs ys=>nilFn g (.func g xs ys)
 | _=>.stuck 325
def qrt (x:SV):R zai:=x.zem (jie x) fun a=>vR (.ptr a)
def q0v (x:Operand):OpF:=fun _ ev _ _=>vR (ev x)
def qq3 (c a b:Operand):OpF:=fun _ ev _ _ =>
 match ev c with
 | .bool (.lit true)=>vR (ev a)
 | .bool (.lit false)=>vR (ev b)
 | .bool (.sym c)=>.fork c (vR (ev a)) (vR (ev b))
 | _=>.stuck 326
def qn6 (elem:TypeId):OpF:=fun P _ _ base=>R.opt 327 (qbi P elem) fun z=>.ok (.val (.ptr ⟨base,.lit 0⟩) [] [.own (.lst z) true elem])
def oBox (elem:TypeId) (x:Operand):OpF:=fun _ ev _ base=>qmi [ev x] (.ok (.val (.ptr ⟨base,.lit 0⟩) [] [.own (.lst (qfg (ev x))) true elem]))
def qo6 (t:TypeId) (parts:Array (Nat × Operand)):OpF:=fun P ev _ _=>jli P t (qd6 ev parts)
def qjp (t:TypeId) (len:Nat) (parts:Array (Nat × Operand)):OpF:=fun P ev _ base=>qb0 P base t len (qd6 ev parts)
def j8c (t:TypeId) (a:Operand):OpF:=fun P ev H _=>zi6 (ev a) (fun x=>qd3 P H t x vR) fun a=>q92 P H t a vR
def qp6 (t:TypeId) (a x:Operand):OpF:=fun P ev H _=>zgn (ev a) fun a=>jki P H t a (ev x)
def zjb (x:Operand):OpF:=fun _ ev _ _=>qrt (ev x)
def zjd (op:BinOp) (t:TypeId) (x y:Operand) (_yt:TypeId):OpF:=fun P ev _ _=>binT P op t (ev x) (ev y)
def oUn (op:UnOp) (_t:TypeId) (x:Operand):OpF:=fun _ ev _ _=>unT op (ev x)
def j9c (src dst:TypeId) (x:Operand):OpF:=fun P ev H base=>zkt P H base src dst (ev x)
def oArr (arr:TypeId) (x:Operand):OpF:=fun P ev _ _ =>
 R.opt 328 (P.underlying arr) fun
  | .array n _=>match ev x with
    | .slice a len _=>match len with
      | .lit l=>match Nat.blt l n with
        | true=>.stuck 329
        | false=>vR (.ptr a)
      | .sym l=>.need (n<=l) (vR (.ptr a))
      | .byt o x=>.need (n<=o+x.toNat) (vR (.ptr a))
    | _=>.stuck 330
  | _=>.stuck 331
def qq6 (t:TypeId) (x:Operand):OpF:=fun P ev _ _ =>
 R.opt 332 (P.underlying t) fun
  | .interface _=>.stuck 333
  | _=>vR (.iface t (ev x))
def qr3 (fn:Fn) (first captured:Array Operand):OpF:=fun _ ev _ _ =>
 match fn with
 | .func f=>vR (.func (.fn (.func f)) (zas ev first.toList) (zas ev captured.toList))
 | .via t path f p=>vR (.func (.fn (.via t path f p)) (zas ev first.toList) (zas ev captured.toList))
 | .methodOf t name=>vR (.func (.fn (.methodOf t name)) (zas ev first.toList) (zas ev captured.toList))
 | _=>.stuck 334
def q2q (t:TypeId) (l c:Operand):OpF:=fun P ev _ base=>qa3 P base t (ev l) (ev c)
def qsw (t:TypeId) (x:Operand) (lo hi mx:Option Operand):OpF:=fun P ev _ _=>joi P t (ev x) (lo.map ev) (hi.map ev) (mx.map ev)
def q3q (s:TypeId) (x:Operand) (f:Nat):OpF:=fun P ev _ _=>qe3 P s (ev x) f
def qtw (t:TypeId) (x:Operand) (f:Nat):OpF:=fun P ev _ _ =>
 match ev x with
 | .agg l=>R.opt 335 (P.underlying t) fun
   | .struct fields=>R.opt 336 (nth fields.toList f) fun f=>quv P f.type l f.offset vR
   | _=>.stuck 337
 | _=>.stuck 338
def qll (t:TypeId) (x i:Operand):OpF:=fun P ev _ _=>qtq P t (ev x) (ev i)
def quw (t:TypeId) (x i:Operand):OpF:=fun P ev _ _=>qe6 P t (ev x) (ev i)
def q5p (t:Operand) (i:Nat):OpF:=fun _ ev _ _ =>
 match ev t with
 | .tuple l=>R.opt 339 (nth l i) vR
 | _=>.stuck 340
def qr6 (f:Operand) (c:Call):OpF:=fun P ev _ _=>qp3 P (ev f) (zas ev c.args.toList)
def qs6 (b:Builtin) (c:Call):OpF:=fun P ev H base=>q4p P H base b c.argTypes (zas ev c.args.toList)
def jvi (_r:Operand) (_m:String) (_c:Call):OpF:=fun _ _ _ _=>.stuck 341
def jwi (c:Callee):Call->OpF:=Callee.rec (motive:=fun _=>Call->OpF) qr6 jvi qs6 c
def zjc (c:Call):OpF:=jwi c.callee c
def oNo:OpF:=fun _ _ _ _=>.stuck 342
def q5m (c:Call):OpF:=fun _ ev _ _ =>
 match c.callee with
 | .value f=>(ev f).zed (.stuck 342) fun fn first captured=>.ok (.defer (.call fn (app first (zas ev c.args.toList)) captured))
 | _=>.stuck 342
def qvw (x:Operand):OpF:=fun _ ev _ _ =>
 match ev x with
 | .iface t v=>.ok (.panic (.iface t v))
 | _=>.stuck 342
def opD (o:Op):OpF :=
 Op.rec (motive:=fun _=>OpF)
  (fun x=>q0v x) (fun x=>q0v x) (fun c a b=>qq3 c a b) (fun e=>qn6 e) (fun e x=>oBox e x) (fun t ps=>qo6 t ps) (fun t n ps=>qjp t n ps)
  (fun t m k x=>qig t m k x) (fun t a=>j8c t a) (fun t a x=>qp6 t a x) (fun _=>oNo) (fun _=>oNo) (fun x=>zjb x)
  (fun op t x y yt=>zjd op t x y yt) (fun op t x=>oUn op t x) (fun s d x=>j9c s d x) (fun t x=>oArr t x) (fun t x=>qq6 t x)
  (fun fn xs ys=>qr3 fn xs ys) (fun t r=>q2p t r) (fun _ _=>oNo) (fun t l c=>q2q t l c) (fun t x lo hi mx=>qsw t x lo hi mx)
  (fun s x f=>q3q s x f) (fun t x f=>qtw t x f) (fun t x i=>qll t x i) (fun t x i=>quw t x i)
  (fun t x k ok=>qj1 t x k ok) (fun t m k x=>qig t m k x) (fun t m k=>qqt t m k) (fun t m st x=>qip t m st x) (fun t x=>qk6 t x) (fun x b=>j7c x b) (fun x=>qm6 x) (fun _ _ _ _=>oNo)
  (fun t i=>q5p t i) (fun c=>zjc c) (fun _=>oNo) (fun c=>q5m c) (fun x=>qvw x) (fun _ _=>oNo) (fun _ _ _=>oNo) (fun _ _=>oNo) o
def opS (P:Program) (ev:Operand->SV) (H:List SO) (base:Nat) (o:Oper):R zai:=opD o.op P ev H base
end
end
noncomputable section
noncomputable section
variable {α:Type}
inductive zaK where
 | code (c:Code)
 | inBlock (id:Nat)
 | inLoop (body:Code)
 | inScope (body:Code)
 | ops (os:Array Oper) (l:List Oper)
 | ze1 (nm:Nat)
 | zd1 (nm:Nat)
 | beginRound
structure SF where
 fn:FuncId
 tmps:List SV
 todo:List zaK
 defers:List SD
 roundOf:Option Nat
structure SS where
 frames:List SF
 heap:List SO
inductive Tree where
 | done (v:SV) (H:List SO)
 | stop (s:SS)
 | need (p:Prop) (t:Tree)
 | fork (b:Bool) (t f:Tree)
 | stuck (n:Nat)
 | any (k:(Nat->Nat)->Tree)
def R.tree (r:R α) (k:α->Tree):Tree :=
 R.rec (motive:=fun _=>Tree) (fun a=>k a) (fun p _ ih=>.need p ih) (fun b _ _ t f=>.fork b t f) (fun n=>.stuck n) (fun _ ih=>.any ih) r
def R.zdM (r:R α) (k:α->Tree):Tree :=
 R.rec (motive:=fun _=>Tree) (fun a=>k a) (fun p _ ih=>.need p ih) (fun b _ _ t f=>.fork b t f) (fun n=>.stuck n) (fun _ _=>.stuck 433) r
structure zaH where
 v:SV
 sets:List (Nat × SO)
 news:List SO
abbrev za3:=List SV->List SO->Nat->R zaH
structure Cfg where
 P:Program
 glob:Nat->Option Nat
 sums:FuncId->Option za3
 zeE:Option (Nat × Nat)
 zet:FuncId->Option (za3 × za3):=fun _=>none
 zej:Option Nat:=none
 each:Array Oper->Bool:=fun _=>false
def qbc (H:List SO) (sets:List (Nat × SO)):List SO:=List.rec (motive:=fun _=>List SO->List SO) (fun H=>H) (fun a _ ih H=>ih (zbv H a.1 a.2)) sets H
def q3b (H:List SO) (sets:List (Nat × SO)) (news:List SO):List SO:=List.rec (motive:=fun _=>List SO) (qbc H sets) (fun x r _=>app (qbc H sets) (x::r)) news
def qto (id:Nat):List zaK->Option (List zaK)
 | .inBlock id'::k=>if id'=id then some k else qto id k
 | _::k=>qto id k
 | []=>none
def zbU (T:List SV) (dst:Option Tmp) (v:SV):List SV:=zah dst T fun d=>zbv T d v
def jxi (os:Array Oper) (l:List Oper) (k:List zaK) (fr:SF) (v:SV):Option SF :=
 List.rec (motive:=fun _=>Option SF) none (fun o l _=>some ⟨fr.fn,zbU fr.tmps o.dst v,.ops os l::k,fr.defers,fr.roundOf⟩) l
def zkh (nm:Nat) (k:List zaK) (fr:SF) (_v:SV):Option SF:=some ⟨fr.fn,fr.tmps,.zd1 nm::k,fr.defers,fr.roundOf⟩
def qvo (_k:List zaK) (_fr:SF) (_v:SV):Option SF:=none
def ql1 (x:zaK):List zaK->SF->SV->Option SF :=
 zaK.rec (motive:=fun _=>List zaK->SF->SV->Option SF) (fun _=>qvo) (fun _=>qvo) (fun _=>qvo) (fun _=>qvo) jxi zkh (fun _=>qvo) qvo x
def qwo (t:List zaK) (fr:SF) (v:SV):Option SF:=List.rec (motive:=fun _=>Option SF) none (fun x k _=>ql1 x k fr v) t
def SF.finish (fr:SF) (v:SV):Option SF:=qwo fr.todo fr v
def qge (P:Program) (f:FuncId) (args:List SV):Option SF :=
 zah (nth P.funcs.toList f) none fun fn=>zah fn.body none fun c =>
  some ⟨f,app args (zba qsa (Nat.sub fn.ntmps (zay args))),[.code c],[],none⟩
def q0i (P:Program) (H:List SO) (T:List SV):List ResultVar->(List SV->R α)->R α
 | [],k=>k []
 | .tmp t::r,k=>q0i P H T r fun l=>k ((nth T t).getD qsa::l)
 | .cell a t::r,k=>zgn ((nth T a).getD qsa) fun a=>q92 P H t a fun v=>q0i P H T r fun l=>k (v::l)
def q6m:List SV->SV
 | [v]=>v
 | l=>.tuple l
def q1i (H:List SO) (nm:Nat):Option (LoopState × Option Code × FuncId × List SV × Array Tmp × Code × Code × Nat) :=
 match nth H nm with
 | some (.loop s p f T ps a b d)=>some (s,p,f,T,ps,a,b,d)
 | _=>none
def qs3 (rest:List SF) (H:List SO) (v:SV) (k:SS->Tree):Tree :=
 match rest with
 | []=>.done v H
 | c::cs=>match c.finish v with
   | some c=>k ⟨c::cs,H⟩
   | none=>.stuck 400
def quj (H:List SO) (rest:List SF) (nm:Nat) (jump:Option Code) (k:SS->Tree):Tree :=
 match q1i H nm,rest with
 | some (_,_,f,T,ps,a,b,d),c::cs =>
   match c.finish (.bool (.lit jump.isNone)) with
   | some c=>k ⟨c::cs,zbv H nm (.loop (if jump.isNone then .ready else .done) jump f T ps a b d)⟩
   | none=>.stuck 401
 | _,_=>.stuck 402
def qww (c:Cfg) (fn:SFn) (args:List SV) (pick:za3 × za3->za3) (H:List SO) (k:List SO->Tree):Tree :=
 SFn.rec (motive:=fun _=>Tree) (fun g=>Fn.rec (motive:=fun _=>Tree) (fun f=>zah (c.zet f) (.stuck 405) fun s=>(pick s args H (zay H)).tree fun r=>k (q3b H r.sets r.news)) (fun _=>.stuck 405) (fun _ _=>.stuck 405) (fun _ _ _ _=>.stuck 405) (fun _=>.stuck 405) g) (fun _=>.stuck 405) fn
def qoi (c:Cfg):List SD->List SO->(List SO->Tree)->Tree
 | [],H,k=>k H
 | .coll nm::r,H,k=>match nth H nm with
   | some (.deferred (some []))=>qoi c r (zbv H nm (.deferred none)) k
   | _=>.stuck 405
 | .call fn args captured::r,H,k=>qww c fn (app args captured) (fun s=>s.1) H fun H'=>qoi c r H' k
def q4q (c:Cfg) (fr:SF) (rest:List SF) (H:List SO) (k:SS->Tree):Tree :=
 match nth c.P.funcs.toList fr.fn with
 | none=>.stuck 403
 | some fn=>(q0i c.P H fr.tmps fn.results.toList fun l=>.ok (q6m l)).tree fun v=>qs3 rest H v k
def qxw (c:Cfg) (v:SV) (H:List SO) (go:SS->Tree) (fr:SF) (rest:List SF) (below:Tree):Tree :=
 match fr.roundOf with
 | some _=>.stuck 413
 | none=>match fr.defers with
   | []=>zah (nth c.P.funcs.toList fr.fn) (.stuck 413) fun _=>below
   | .call fn args captured::ds=>qww c fn (v::app args captured) (fun s=>s.2) H fun H'=>qoi c ds H' fun H'=>q4q c fr rest H' go
   | _=>.stuck 413
def qyw (c:Cfg) (v:SV) (H:List SO) (go:SS->Tree) (frs:List SF):Tree:=List.rec (motive:=fun _=>Tree) (.stuck 413) (fun fr rest ih=>qxw c v H go fr rest ih) frs
def qxo (c:Cfg) (fr:SF) (rest:List SF) (H:List SO) (k:SS->Tree):Tree :=
 match fr.roundOf with
 | some nm=>quj H rest nm (match fr.todo with | []=>none | _=>some .ret) k
 | none=>qoi c fr.defers H fun H'=>q4q c fr rest H' k
def qmk (c:Cfg) (f:FuncId) (args:List SV) (fr:SF) (rest:List SF) (H:List SO) (k:SS->Tree):Tree :=
 match c.sums f with
 | some s=>(s args H (zay H)).tree fun r =>
   match fr.finish r.v with
   | some fr=>k ⟨fr::rest,q3b H r.sets r.news⟩
   | none=>.stuck 406
 | none=>match qge c.P f args with
   | some g=>k ⟨g::fr::rest,H⟩
   | none=>.stuck 407
def qyo (T:List SV):List Tmp->List SV->List SV
 | t::ts,v::vs=>qyo (zbv T t v) ts vs
 | _,_=>T
def qzw (nm:Nat) (args:List SV) (fr:SF) (rest:List SF) (H:List SO) (k:SS->Tree):Tree :=
 match q1i H nm with
 | some (_,_,f,T,ps,a,b,_) =>
   if zay args=zay ps.toList then k ⟨{ fn:=f,tmps:=qyo T ps.toList args,todo:=[.code a,.beginRound,.code b],defers:=[],roundOf:=some nm }::fr::rest,H⟩
   else .stuck 408
 | none=>.stuck 409
def jje (b:Bool) (want:Bool) (T:List SV) (d:Nat) (yes:List SV->Tree) (no:Tree):Tree :=
 .fork b (zab want (yes (zbv T d (.bool (.lit true)))) no) (zab want no (yes (zbv T d (.bool (.lit false)))))
def q5q (b:SB) (want:Bool) (T:List SV) (d:Nat) (yes:List SV->Tree) (no:Tree):Tree :=
 SB.rec (motive:=fun _=>Tree) (fun b=>zab b (zab want (yes T) no) (zab want no (yes T))) (fun b=>jje b want T d yes no) b
def qnk (v:SV) (no:Tree):Tree:=v.asTuple (.stuck 410) fun l=>List.rec (motive:=fun _=>Tree) no (fun _ _ _=>.stuck 410) l
def qeh (os:Array Oper) (j:Nat):Option Tmp:=zah (nth os.toList j) none fun o=>o.dst
def zh2 (j:Nat) (want:Bool) (os:Array Oper) (T:List SV) (yes:List SV->Tree) (no:Tree):Tree :=
 zah (qeh os j) no fun d=>zah (nth T d) (.stuck 410) fun v=>v.asBool (qnk v no) fun b=>q5q b want T d yes no
def q6q (g:Option (Nat × Bool)) (os:Array Oper) (T:List SV) (yes:List SV->Tree) (no:Tree):Tree:=zah g (yes T) fun p=>zh2 p.1 p.2 os T yes no
structure Ctx where
 c:Cfg
 fr:SF
 frs:List SF
 H:List SO
 os:Array Oper
 l:List Oper
 k:List zaK
 dst:Option Tmp
 go:SS->Tree
def qt6 (v:SV) (sets:List (Nat × SO)) (news:List SO) (x:Ctx):Tree :=
 x.go ⟨⟨x.fr.fn,zbU x.fr.tmps x.dst v,.ops x.os x.l::x.k,x.fr.defers,x.fr.roundOf⟩::x.frs,q3b x.H sets news⟩
def qj9 (f:FuncId) (args:List SV) (x:Ctx):Tree:=qmk x.c f args x.fr x.frs x.H x.go
def qk9 (nm:Nat) (args:List SV) (x:Ctx):Tree:=qzw nm args x.fr x.frs x.H x.go
def ql9 (d:SD) (x:Ctx):Tree:=zah x.fr.roundOf (x.go ⟨⟨x.fr.fn,zbU x.fr.tmps x.dst qsa,.ops x.os x.l::x.k,d::x.fr.defers,x.fr.roundOf⟩::x.frs,x.H⟩) fun _=>.stuck 412
def qm9 (v:SV) (x:Ctx):Tree:=qyw x.c v x.H x.go (x.fr::x.frs)
def resD (r:zai):Ctx->Tree:=zai.rec (motive:=fun _=>Ctx->Tree) qt6 qj9 qk9 ql9 qm9 (fun v _=>qt6 v [] []) r
def opT (o:Oper) (l:List Oper) (os:Array Oper) (k:List zaK) (fr:SF) (frs:List SF) (c:Cfg) (H:List SO) (go:SS->Tree):Tree :=
 q6q o.guard os fr.tmps
  (fun T=>(opS c.P (evS c.glob T) H (zay H) o).tree fun r=>resD r ⟨c,⟨fr.fn,T,fr.todo,fr.defers,fr.roundOf⟩,frs,H,os,l,k,o.dst,go⟩)
  (go ⟨⟨fr.fn,zbU fr.tmps o.dst qsa,.ops os l::k,fr.defers,fr.roundOf⟩::frs,H⟩)
def q0w (c:Cfg) (f:Operand) (params:Array Tmp) (assign body:Code) (fr:SF) (k:List zaK) (rest:List SF) (H:List SO) (go:SS->Tree):Tree :=
 let base:=zay H
 match fr.roundOf with
 | none =>
   let nm:=Nat.succ base
   let fr':SF:={ fr with todo:=.ze1 nm::k,defers:=.coll base::fr.defers }
   let H':=app H [.deferred (some []),.loop .ready none fr.fn fr.tmps params assign body base]
   match qtj (evS c.glob fr.tmps f) [.func (.yield nm) [] []] with
   | .ok (.enter g args)=>qmk c g args fr' rest H' go
   | _=>.stuck 414
 | some l=>match q1i H l with
   | some (_,_,_,_,_,_,_,d) =>
     let fr':SF:={ fr with todo:=.ze1 base::k }
     let H':=app H [.loop .ready none fr.fn fr.tmps params assign body d]
     match qtj (evS c.glob fr.tmps f) [.func (.yield base) [] []] with
     | .ok (.enter g args)=>qmk c g args fr' rest H' go
     | _=>.stuck 415
   | none=>.stuck 416
abbrev za1:=List zaK->SF->List SF->Cfg->List SO->(SS->Tree)->Tree
def SF.to (fr:SF) (todo:List zaK):SF:=⟨fr.fn,fr.tmps,todo,fr.defers,fr.roundOf⟩
def zgM:za1:=fun k fr rest _ H go=>go ⟨fr.to k::rest,H⟩
def seqT (a b:Code):za1:=fun k fr rest _ H go=>go ⟨fr.to (.code a::.code b::k)::rest,H⟩
def zku (v:SB) (a b:Code):za1 :=
 SB.rec (motive:=fun _=>za1)
  (fun v=>zab v (fun k fr rest _ H go=>go ⟨fr.to (.code a::k)::rest,H⟩) (fun k fr rest _ H go=>go ⟨fr.to (.code b::k)::rest,H⟩))
  (fun p k fr rest _ H go=>.fork p (go ⟨fr.to (.code a::k)::rest,H⟩) (go ⟨fr.to (.code b::k)::rest,H⟩)) v
def qt3 (x:Operand) (a b:Code):za1:=fun k fr rest c H go=>(evS c.glob fr.tmps x).asBool (.stuck 417) fun v=>zku v a b k fr rest c H go
def jyi (id:Nat) (body:Code):za1:=fun k fr rest _ H go=>go ⟨fr.to (.code body::.inBlock id::k)::rest,H⟩
def zjv (body:Code):za1:=fun k fr rest _ H go=>go ⟨fr.to (.code body::.inLoop body::k)::rest,H⟩
def jzi (body:Code):za1:=fun k fr rest _ H go=>go ⟨fr.to (.inLoop body::k)::rest,H⟩
def j0i (body:Code):za1:=fun k fr rest _ H go=>go ⟨fr.to (.code body::.inScope body::k)::rest,H⟩
def qu3 (id:Nat):za1:=fun k fr rest _ H go =>
 match qto id k with
 | some k'=>go ⟨{ fr with todo:=k' }::rest,H⟩
 | none=>match fr.roundOf with
   | some nm=>quj H rest nm (some (.exit id)) go
   | none=>.stuck 418
def retT:za1:=fun _ fr rest c H go=>qxo c fr rest H go
def zh6 (os:Array Oper):za1:=fun k fr rest _ H go=>go ⟨fr.to (.ops os os.toList::k)::rest,H⟩
def qhd (acc:List Nat) (es:List Edge):Nat :=
 List.rec (motive:=fun _=>Nat) 0 (fun e _ ih=>zab (Region.binds .any e) (Nat.lor (Nat.lor (Nat.pow 2 e.on) (zah (nth acc e.on) 0 fun m=>m)) ih) ih) es
def qca (ops:List Oper):List Nat->List Nat:=List.rec (motive:=fun _=>List Nat->List Nat) (fun acc=>acc) (fun o _ ih acc=>ih (app acc [qhd acc o.after.toList])) ops
def q2f (m i:Nat):Bool:=Nat.beq (Nat.land m (Nat.sub (Nat.pow 2 i) 1)) (Nat.sub (Nat.pow 2 i) 1)
def qke (ms:List Nat):Nat->Nat:=List.rec (motive:=fun _=>Nat->Nat) (fun _=>0) (fun m _ ih i=>zab (Nat.beq (ih (Nat.succ i)) 0) (zab (q2f m i) 0 (Nat.succ i)) (ih (Nat.succ i))) ms
def qm1 (x:Operand):List Nat:=Operand.rec (motive:=fun _=>List Nat) (fun t=>[t]) (fun _=>[]) (fun _=>[]) (fun _=>[]) x
def qsb (os:Array Oper) (o:Oper):List Nat :=
 app (zah o.guard [] fun g=>zah (qeh os g.1) [] fun d=>[d]) (List.rec (motive:=fun _=>List Nat) [] (fun x _ ih=>app (qm1 x) ih) o.op.operands.toList)
def zbH (m j:Nat):Bool:=Nat.testBit m j
def qvj (m:Nat) (reads:List Nat) (ops:List Oper):Nat->Bool :=
 List.rec (motive:=fun _=>Nat->Bool) (fun _=>true) (fun o _ ih j=>zab (zah o.dst true fun d=>zab (zbD d reads) (zbH m j) true) (ih (Nat.succ j)) false) ops
def qn1 (i:Nat) (es:List Edge):Bool:=zaO (fun e=>zab (Region.binds .any e) (Nat.blt e.on i) true) es
def qvs (dst:Option Tmp) (ops:List Oper):Bool:=zah dst true fun d=>zaO (fun o=>zah o.dst true fun e=>zab (Nat.beq e d) false true) ops
def qid (os:Array Oper) (hd:List Oper) (ops:List Oper):List Nat->Nat->Bool :=
 List.rec (motive:=fun _=>List Nat->Nat->Bool) (fun _ _=>true)
  (fun o r ih ms i=>zab (qvj (List.rec (motive:=fun _=>Nat) 0 (fun m _ _=>m) ms) (qsb os o) hd 0) (zab (qvs o.dst r) (ih (List.rec (motive:=fun _=>List Nat) [] (fun _ r _=>r) ms) (Nat.succ i)) false) false) ops
def qwe (ms:List Nat):Nat->Bool:=List.rec (motive:=fun _=>Nat->Bool) (fun _=>true) (fun m _ ih i=>zab (q2f m i) (ih (Nat.succ i)) false) ms
def qmb (ops:List Oper):Nat->Bool:=List.rec (motive:=fun _=>Nat->Bool) (fun _=>true) (fun o _ ih i=>zab (qn1 i o.after.toList) (ih (Nat.succ i)) false) ops
structure zcn where
 c:Cfg
 os:Array Oper
 H:List SO
 fin:List SV->List SO->List (Nat × SO)->Tree
 mL:Option Nat
structure zeo where
 i:Nat
 m:Nat
 last:Bool
def qpi (e:SO):Bool :=
 match e with
 | .own (.lst [_]) _ _=>false
 | .row _=>false
 | _=>true
def qkg (e:SO):SO:=zab (qpi e) .gone e
def ze2 (H:List SO) (n:Nat):Bool:=zah (nth H n) false qpi
def zcn.atI (x:zcn) (i:Nat) (last:Bool):List SO:=zah x.mL x.H fun m=>zab last x.H (zab (zbH m i) x.H (zas qkg x.H))
def q1v (m:Nat) (N:List (Nat × SO)):List SO:=zas (fun p=>zab (zbH m p.1) p.2 .gone) N
def qzo (H:List SO) (m:Nat) (N:List (Nat × SO)):List SO:=List.rec (motive:=fun _=>List SO) H (fun _ _ _=>app H (q1v m N)) N
def q1w (v:SV) (news:List SO) (p:zeo) (dst:Option Tmp) (T:List SV) (N:List (Nat × SO)) (next:List SV->List (Nat × SO)->Tree):Tree :=
 match news with
 | []=>next (zbU T dst v) N
 | [e]=>next (zbU T dst v) (app N [(p.i,e)])
 | _=>.stuck 431
def q7q (ms:List Nat) (m last j:Nat):Bool:=zab (zbH m j) (zaO (fun i=>zab (zbH m i) true (zab (zbH (zah (nth ms i) 0 fun k=>k) j) false true)) (qqa last 0)) false
def qok (x:zcn) (p:zeo) (N:List (Nat × SO)) (n:Nat):Bool :=
 zab (Nat.ble (zay x.H) n) (zah (nth N (Nat.sub n (zay x.H))) false fun q=>q7q (qca x.os.toList []) p.m p.i q.1) false
def qu6 (v:SV) (sets:List (Nat × SO)) (news:List SO) (x:zcn) (p:zeo) (dst:Option Tmp) (T:List SV) (N:List (Nat × SO)):Tree :=
 match news with
 | []=>zab p.last (zah x.mL (.stuck 435) fun m=>zab (Nat.beq m p.m) (zab (zaO (fun q=>zab (ze2 x.H q.1) true (qok x p N q.1)) sets) (x.fin (zbU T dst v) (zas (fun p=>p.2) N) sets) (.stuck 436)) (.stuck 437)) (.stuck 432)
 | _=>.stuck 438
def qml (v:SV) (sets:List (Nat × SO)) (news:List SO) (x:zcn) (p:zeo) (dst:Option Tmp) (T:List SV) (N:List (Nat × SO)) (next:List SV->List (Nat × SO)->Tree):Tree :=
 match sets with
 | []=>q1w v news p dst T N next
 | _=>qu6 v sets news x p dst T N
def qws (f:FuncId) (args:List SV) (x:zcn) (p:zeo) (dst:Option Tmp) (T:List SV) (N:List (Nat × SO)) (next:List SV->List (Nat × SO)->Tree):Tree :=
 match x.c.sums f with
 | some s=>(s args (qzo (x.atI p.i p.last) p.m N) (Nat.add (zay x.H) (zay N))).zdM fun r=>qml r.v r.sets r.news x p dst T N next
 | none=>.stuck 433
def zkk (r:zai):zcn->zeo->Option Tmp->List SV->List (Nat × SO)->(List SV->List (Nat × SO)->Tree)->Tree :=
 zai.rec (motive:=fun _=>zcn->zeo->Option Tmp->List SV->List (Nat × SO)->(List SV->List (Nat × SO)->Tree)->Tree) qml qws (fun _ _ _ _ _ _ _ _=>.stuck 434) (fun _ _ _ _ _ _ _=>.stuck 434) (fun _ _ _ _ _ _ _=>.stuck 434) (fun v _=>qml v [] []) r
def zhO (o:Oper) (x:zcn) (p:zeo) (T:List SV) (N:List (Nat × SO)) (next:List SV->List (Nat × SO)->Tree):Tree :=
 q6q o.guard x.os T (fun T'=>(opS x.c.P (evS x.c.glob T') (qzo (x.atI p.i p.last) p.m N) (Nat.add (zay x.H) (zay N)) o).zdM fun r=>zkk r x p o.dst T' N next) (next (zbU T o.dst qsa) N)
def qsf (ms:List Nat):Nat:=List.rec (motive:=fun _=>Nat) 0 (fun m _ _=>m) ms
def qxd (ms:List Nat):List Nat:=List.rec (motive:=fun _=>List Nat) [] (fun _ r _=>r) ms
def q2v (ops:List Oper) (x:zcn):List Nat->Nat->List SV->List (Nat × SO)->Tree :=
 List.rec (motive:=fun _=>List Nat->Nat->List SV->List (Nat × SO)->Tree) (fun _ _ T N=>x.fin T (zas (fun p=>p.2) N) []) (fun o r ih ms i T N=>zhO o x ⟨i,qsf ms,List.rec (motive:=fun _=>Bool) true (fun _ _ _=>false) r⟩ T N (ih (qxd ms) (Nat.succ i))) ops
def qsh (os:Array Oper) (ops:List Oper) (ms:List Nat) (s:Nat):Bool :=
 zab (qmb ops 0) (zab (qid os (qta ops s) (qta ops s) ms 0) (qwe (qnb ms s) s) false) false
def jke (o:Oper):Bool:=match o.op with | .store .. => true | _=>false
def q8q (ops:List Oper) (ms:List Nat) (s:Nat):Option Nat:=zah (nth ops (Nat.pred s)) none fun o=>zab (jke o) (nth ms (Nat.pred s)) none
def qv3 (os:Array Oper) (s:Nat) (ms:List Nat):za1:=fun k fr rest c H go =>
 zab (qsh os os.toList ms s)
  (q2v (qta os.toList s) ⟨c,os,H,fun T N sets=>go ⟨⟨fr.fn,T,.ops os (qnb os.toList s)::k,fr.defers,fr.roundOf⟩::rest,q3b (app H N) sets []⟩,q8q os.toList ms s⟩ ms 0 fr.tmps [])
  (.stuck 430)
def intT (P:Program) (t:TypeId):Bool:=zah (P.underlying t) false fun d=>match d with | .int _=>true | _=>false
def j1i (b:Builtin):Bool:=match b with | .len=>false | .min=>false | _=>true
def q9b (P:Program) (o:Oper):Bool :=
 match o.op with
 | .move _=>false | .assign _=>false | .pick .. => false | .build .. => false | .load .. => false | .nilCheck _=>false | .binOp .. => false | .unOp .. => false | .sliceToArrayPointer .. => false | .makeInterface .. => false
 | .makeFunc .. => false | .lookup .. => false | .slice .. => false | .fieldAddr .. => false | .field .. => false | .indexAddr .. => false | .index .. => false | .extract .. => false
 | .convert s d _=>zab (intT P s) (zab (intT P d) false true) true
 | .call c=>match c.callee with | .builtin b=>j1i b | _=>true
 | _=>true
def zck (P:Program) (i m:Nat) (ops:List Oper):List Nat->Nat->Bool :=
 List.rec (motive:=fun _=>List Nat->Nat->Bool) (fun _ _=>true)
  (fun o _ ih ms j=>zab (zab (q9b P o) (zab (Nat.beq j i) true (zab (Nat.blt j i) (zbH m j) (zbH (qsf ms) i))) true) (ih (qxd ms) (Nat.succ j)) false) ops
structure zcy where
 hid:SO->Bool
 c:Cfg
 os:Array Oper
 H:List SO
 hd:List Oper
 ms:List Nat
 fin:List SV->List SO->Tree
def qyd (hid:SO->Bool) (e:SO):SO:=zab (hid e) .gone e
def zeX (hid:SO->Bool) (H:List SO) (n:Nat):Bool:=zah (nth H n) false fun e=>zab (hid e) false true
def u8K (k:IntKind):Bool:=match k with | .u8=>true | _=>false
def jle (e:SO):Bool:=zab (qpi e) (match e with | .own (.lst l) _ _=>zab (zaO (fun v=>v.asInt false fun k _=>u8K k) l) false true | _=>true) false
def chNo (v:SV) (sets:List (Nat × SO)) (news:List SO) (dst:Option Tmp) (T:List SV) (H:List SO) (next:List SV->List SO->Tree):Tree :=
 match sets,news with
 | [],[]=>next (zbU T dst v) H
 | _,_=>.stuck 443
def q9q (v:SV) (sets:List (Nat × SO)) (news:List SO) (mv:Bool) (x:zcy) (dst:Option Tmp) (T:List SV) (H:List SO) (next:List SV->List SO->Tree):Tree :=
 zab mv (zab (zaO (fun q=>zab (zeX x.hid x.H q.1) false true) sets) (next (zbU T dst v) (q3b H sets news)) (.stuck 442)) (chNo v sets news dst T H next)
def qxs (f:FuncId) (args:List SV) (mv:Bool) (x:zcy) (G:List SO) (dst:Option Tmp) (T:List SV) (H:List SO) (next:List SV->List SO->Tree):Tree :=
 match x.c.sums f with
 | some s=>(s args G (zay H)).zdM fun r=>q9q r.v r.sets r.news mv x dst T H next
 | none=>.stuck 433
def zkx (r:zai):Bool->zcy->List SO->Option Tmp->List SV->List SO->(List SV->List SO->Tree)->Tree :=
 zai.rec (motive:=fun _=>Bool->zcy->List SO->Option Tmp->List SV->List SO->(List SV->List SO->Tree)->Tree) (fun v sets news mv x _=>q9q v sets news mv x) qxs (fun _ _ _ _ _ _ _ _ _=>.stuck 434) (fun _ _ _ _ _ _ _ _=>.stuck 434) (fun _ _ _ _ _ _ _ _=>.stuck 434) (fun v _ _ _ _ dst T H next=>next (zbU T dst v) H) r
def q3v (G:List SO) (mv:Bool) (o:Oper) (x:zcy) (T:List SV) (H:List SO) (next:List SV->List SO->Tree):Tree :=
 q6q o.guard x.os T (fun T'=>(opS x.c.P (evS x.c.glob T') G (zay H) o).zdM fun r=>zkx r mv x G o.dst T' H next) (next (zbU T o.dst qsa) H)
def zky (o:Oper) (x:zcy) (i m:Nat) (T:List SV) (H:List SO) (next:List SV->List SO->Tree):Tree :=
 zab (zck x.c.P i m x.hd x.ms 0) (q3v H (q9b x.c.P o) o x T H next) (zab (q9b x.c.P o) (.stuck 440) (q3v (zas (qyd x.hid) x.H) false o x T H next))
def chP (ops:List Oper) (x:zcy):List Nat->Nat->List SV->List SO->Tree :=
 List.rec (motive:=fun _=>List Nat->Nat->List SV->List SO->Tree) (fun _ _ T H=>x.fin T H) (fun o _ ih ms i T H=>zky o x i (qsf ms) T H (ih (qxd ms) (Nat.succ i))) ops
def qar (hid:SO->Bool) (os:Array Oper) (s:Nat) (ms:List Nat):za1:=fun k fr rest c H go =>
 zab (qsh os os.toList ms s)
  (chP (qta os.toList s) ⟨hid,c,os,H,qta os.toList s,ms,fun T H'=>go ⟨⟨fr.fn,T,.ops os (qnb os.toList s)::k,fr.defers,fr.roundOf⟩::rest,H'⟩⟩ ms 0 fr.tmps H)
  (.stuck 430)
def q2w (o:Oper):Bool:=match o.op with | .call c=>(match c.callee with | .builtin b=>(match b with | .append=>true | _=>false) | _=>false) | _=>false
def qv6 (ops:List Oper):Bool:=List.rec (motive:=fun _=>Bool) false (fun o _ ih=>zab (q2w o) true ih) ops
def qw3 (v:SV) (sets:List (Nat × SO)) (news:List SO) (x:zcy) (dst:Option Tmp) (T:List SV) (H:List SO):Tree :=
 match sets,news with
 | [],[e]=>x.fin (zbU T dst v) (app H [e])
 | _,_=>.stuck 444
def jad (r:zai):zcy->Option Tmp->List SV->List SO->Tree :=
 zai.rec (motive:=fun _=>zcy->Option Tmp->List SV->List SO->Tree) qw3 (fun _ _ _ _ _ _=>.stuck 445) (fun _ _ _ _ _ _=>.stuck 445) (fun _ _ _ _ _=>.stuck 445) (fun _ _ _ _ _=>.stuck 445) (fun _ _ _ _ _ _=>.stuck 445) r
def q3w (e:SO):Bool:=match e with | .mem _=>false | _=>true
def qwj (H:List SO):Bool:=List.rec (motive:=fun _=>Bool) true (fun e _ ih=>zab (q3w e) ih false) H
theorem qnl:∀ {H:List SO},qwj H=true->∀ (n:Nat) (m:Mem),H[n]? ≠ some (SO.mem m)
 | [],_,_,_,h=>by simp at h
 | e::H,hn,n,m,h=>by
   have hn:zab (q3w e) (qwj H) false=true:=hn;cases he:q3w e with
   | false=>rw [he] at hn; cases hn
   | true =>
     rw [he] at hn;cases n with
     | zero=>cases h; cases he
     | succ n=>exact qnl hn n m h
def qx3 (o:Oper) (x:zcy) (T:List SV) (H:List SO):Tree :=
 zab (zah o.guard true fun _=>false) ((opS x.c.P (evS x.c.glob T) (zas (qyd x.hid) x.H) (zay H) o).zdM fun r=>jad r x o.dst T H) (.stuck 446)
def zgT (o:Oper) (x:zcy) (T:List SV) (H:List SO):Tree:=zab (qwj H) (qx3 o x T H) (.stuck 448)
def qbr (hid:SO->Bool) (os:Array Oper) (s:Nat) (ms:List Nat):za1:=fun k fr rest c H go =>
 zab (qsh os os.toList ms (Nat.succ s))
  (zah (nth os.toList s) (.stuck 447) fun o=>chP (qta os.toList s) ⟨hid,c,os,H,qta os.toList s,ms,fun T H'=>zgT o ⟨hid,c,os,H,[],[],fun T H'=>go ⟨⟨fr.fn,T,.ops os (qnb os.toList (Nat.succ s))::k,fr.defers,fr.roundOf⟩::rest,H'⟩⟩ T H'⟩ ms 0 fr.tmps H)
  (.stuck 430)
def zjE (s:za3):Bool:=match s [] [] 0 with | .stuck n=>zab (Nat.beq n 7777) true (Nat.beq n 7776) | _=>false
def j2i (s:za3):Bool:=match s [] [] 0 with | .stuck n=>Nat.beq n 7777 | _=>false
def zh5 (c:Cfg) (o:Oper):Bool:=match o.op with | .call cl=>(match cl.callee with | .value f=>(match f with | .func f=>zah (c.sums f) false j2i | _=>false) | _=>false) | _=>false
def jme (c:Cfg) (ops:List Oper):Bool:=List.rec (motive:=fun _=>Bool) false (fun o _ ih=>zab (zh5 c o) true ih) ops
def zir (c:Cfg) (o:Oper):Bool:=match o.op with | .call cl=>(match cl.callee with | .value f=>(match f with | .func f=>zah (c.sums f) false zjE | _=>false) | _=>false) | _=>false
def qw6 (c:Cfg) (ops:List Oper):Bool:=List.rec (motive:=fun _=>Bool) false (fun o _ ih=>zab (zir c o) true ih) ops
def qol (P:Program) (os:Array Oper) (s:Nat) (ms:List Nat):Bool:=zah (nth os.toList (Nat.pred s)) false fun o=>zab (q9b P o) (zab (zck P (Nat.pred s) (zah (nth ms (Nat.pred s)) 0 fun m=>m) (qta os.toList s) ms 0) false true) false
def hidP (c:Cfg) (ops:List Oper) (e:SO):Bool:=zab (jme c ops) (jle e) false
def qyg (f:Nat->Oper->List (List Nat)) (ops:List Oper):Nat->List (List Nat):=List.rec (motive:=fun _=>Nat->List (List Nat)) (fun _=>[]) (fun o _ ih i=>app (f i o) (ih (Nat.succ i))) ops
def q4v (l:List (List Nat)):List (List Nat):=List.rec (motive:=fun _=>List (List Nat)) [[]] (fun _ _ _=>l) l
def zht (b:Nat) (o:Oper):Bool:=zaO (fun e=>zab (Region.binds .any e) (zbH b e.on) true) o.after.toList
def qlg (ops:List Oper) (fuel:Nat):Nat->List (List Nat) :=
 Nat.rec (motive:=fun _=>Nat->List (List Nat)) (fun _=>[[]]) (fun _ ih b=>q4v (qyg (fun i o=>zab (zbH b i) [] (zab (zht b o) (zas (fun l=>i::l) (ih (Nat.lor b (Nat.pow 2 i)))) [])) ops 0)) fuel
def qfh (f:List Nat->Tree) (l:List (List Nat)):Nat->Nat->Tree :=
 List.rec (motive:=fun _=>Nat->Nat->Tree) (fun _ _=>.stuck 449) (fun a r ih n i=>List.rec (motive:=fun _=>Tree) (f a) (fun _ _ _=>.fork (decide (n=i)) (f a) (ih n (Nat.succ i))) r) l
def opsE (ops:List Oper) (idx:List Nat):List Oper:=List.rec (motive:=fun _=>List Oper) [] (fun i _ ih=>zah (nth ops i) ih fun o=>o::ih) idx
def q5v (os:Array Oper):za1:=fun k fr rest _ H go=>.any fun z=>qfh (fun idx=>go ⟨fr.to (.ops os (opsE os.toList idx)::k)::rest,H⟩) (qlg os.toList (zay os.toList) 0) (z 0) 0
def qcr (ms:List Nat) (w:Nat):Bool:=zaO (fun m=>q2f m w) (qnb ms w)
def jne (ms:List Nat) (l:List Nat):Nat:=List.rec (motive:=fun _=>Nat) 0 (fun w _ ih=>zab (qcr ms w) w ih) l
def qy3 (os:Array Oper) (w:Nat) (ms:List Nat):za1:=fun k fr rest c H go =>
 zab (qmb os.toList 0) (zab (qid os (qta os.toList w) (qta os.toList w) ms 0) (zab (qcr ms w) (zab (Nat.ble w (zay os.toList))
  (q2v (qta os.toList w) ⟨c,os,H,fun T N sets=>.any fun z=>qfh (fun idx=>go ⟨⟨fr.fn,T,.ops os (opsE os.toList idx)::k,fr.defers,fr.roundOf⟩::rest,q3b (app H N) sets []⟩) (qlg os.toList (Nat.sub (zay os.toList) w) (Nat.sub (Nat.pow 2 w) 1)) (z 0) 0,none⟩ ms 0 fr.tmps [])
  (.stuck 451)) (.stuck 451)) (.stuck 451)) (.stuck 451)
def jbd (os:Array Oper) (s:Nat) (ms:List Nat):za1:=zab (qsh os os.toList ms s) (qv3 os s ms) (qy3 os (jne ms (qqa (zay ms) 1)) ms)
def jcd (os:Array Oper) (s:Nat) (ms:List Nat):za1:=fun k fr rest c H go =>
 zab (qw6 c (qta os.toList s)) (zab (qol c.P os s ms) (qbr (hidP c (qta os.toList s)) os (Nat.pred s) ms k fr rest c H go) (qar (hidP c (qta os.toList s)) os s ms k fr rest c H go)) (jbd os s ms k fr rest c H go)
def atN (l:List Nat) (i:Nat):Nat:=zah (nth l i) 0 fun m=>m
def qpl (f:Nat->Bool) (n:Nat):Nat:=Nat.rec (motive:=fun _=>Nat) 0 (fun q ih=>zab (f q) (Nat.lor ih (Nat.pow 2 q)) ih) n
def zkC (ms acc:List Nat) (i j:Nat):Bool:=zab (zbH (atN ms i) j) true (zab (zbD i acc) (zbD j acc) false)
def msP (ms acc pi:List Nat):List Nat:=zas (fun p=>qpl (fun q=>zkC ms acc (atN pi p) (atN pi q)) p) (qqa (zay pi) 0)
def qmg (l:List Nat):Bool:=List.rec (motive:=fun _=>Bool) true (fun a r ih=>zab (zbD a r) false ih) l
def zhM (l:List Nat):List Nat->Bool:=List.rec (motive:=fun _=>List Nat->Bool) (fun r=>List.rec (motive:=fun _=>Bool) true (fun _ _ _=>false) r) (fun a _ ih r=>List.rec (motive:=fun _=>Bool) false (fun b r _=>zab (Nat.beq a b) (ih r) false) r) l
def qgh (f:Nat->Bool) (l:List Nat):List Nat:=List.rec (motive:=fun _=>List Nat) [] (fun a _ ih=>zab (f a) (a::ih) ih) l
def piM (ms acc:List Nat) (s:Nat):List Nat :=
 List.rec (motive:=fun _=>List Nat->List Nat) (fun P=>app P (qgh (fun j=>zab (zbD j P) false true) (qqa s 0)))
  (fun m _ ih P=>ih (app (app P (qgh (fun j=>zab (zbH (atN ms m) j) (zab (zbD j P) false (zab (zbD j acc) false true)) false) (qqa s 0))) [m])) acc []
def jdd (s:Nat) (acc pi:List Nat):Bool :=
 zab (Nat.beq (zay pi) s) (zab (qmg pi) (zab (zaO (fun i=>zbD i pi) (qqa s 0)) (zhM (qgh (fun i=>zbD i acc) pi) acc) false) false) false
def okQ (os:Array Oper) (ops:List Oper) (s:Nat) (ms acc pi mp:List Nat):Bool :=
 zab (qmb os.toList 0) (zab (qid os ops ops mp 0) (zab (qwe (qnb ms s) s) (zab (jdd s acc pi) (zaO (fun i=>zab (Nat.blt i s) (Nat.blt i (zay os.toList)) false) pi) false) false) false) false
def q4w (hid:SO->Bool) (os:Array Oper) (s:Nat) (ms acc:List Nat):za1:=fun k fr rest c H go =>
 zab (okQ os (opsE os.toList (piM ms acc s)) s ms acc (piM ms acc s) (msP ms acc (piM ms acc s)))
  (chP (opsE os.toList (piM ms acc s)) ⟨hid,c,os,H,opsE os.toList (piM ms acc s),msP ms acc (piM ms acc s),fun T H'=>go ⟨⟨fr.fn,T,.ops os (qnb os.toList s)::k,fr.defers,fr.roundOf⟩::rest,H'⟩⟩ (msP ms acc (piM ms acc s)) 0 fr.tmps H)
  (.stuck 430)
def q2i (ms todo:List Nat):List Nat:=qgh (fun m=>zaO (fun j=>zab (zbH (atN ms m) j) false true) todo) todo
def qql (m:Nat) (l:List Nat):List Nat:=qgh (fun j=>zab (Nat.beq j m) false true) l
def jed (f:Nat->Tree) (l:List Nat):Tree:=List.rec (motive:=fun _=>Tree) (.stuck 448) (fun m _ _=>f m) l
def zjn (f:List Nat->Tree) (ms:List Nat) (n:Nat):List Nat->List Nat->Tree :=
 Nat.rec (motive:=fun _=>List Nat->List Nat->Tree) (fun _ acc=>f acc) (fun _ ih todo acc=>.any fun z=>qfh (jed fun m=>ih (qql m todo) (app acc [m])) (zas (fun m=>[m]) (q2i ms todo)) (z 0) 0) n
def qpk (P:Program) (os:Array Oper) (s:Nat):List Nat:=qgh (fun i=>zah (nth os.toList i) false (q9b P)) (qqa s 0)
def qz3 (hid:SO->Bool) (os:Array Oper) (s:Nat) (ms:List Nat):za1:=fun k fr rest c H go =>
 zab (qmb os.toList 0) (zjn (fun acc=>q4w hid os s ms acc k fr rest c H go) ms (zay (qpk c.P os s)) (qpk c.P os s) []) (.stuck 430)
def qo1 (ops:List Oper):Bool:=Nat.ble 3 (List.rec (motive:=fun _=>Nat) 0 (fun o _ ih=>zab (q2w o) (Nat.succ ih) ih) ops)
def i64K (k:IntKind):Bool:=match k with | .i64=>true | _=>false
def joe (l:List SV):Bool:=match l with | .str _::_=>true | _=>false
def strE (e:SO):Bool:=match e with | .own (.lst l) _ _=>joe l | _=>false
def j3i (v:SV):Bool:=v.zem false fun _=>true
def headA (v:SV) (n:Nat):Bool:=zab (v.asInt false fun k _=>i64K k) (Nat.ble 8 n) (zab (j3i v) false true)
def qys (e:SO):Bool:=zab (zab (strE e) true (qpi e)) (match e with | .own (.lst l) _ _=>List.rec (motive:=fun _=>Bool) true (fun v _ _=>headA v (zay l)) l | .own (.fn g _) _ _=>zab (zcX (g 0)).isSome false true | .obj _=>false | _=>true) false
def qdr (P:Program) (hd:List Oper) (ms0:List Nat) (ops:List Oper):List Nat->Nat->Bool :=
 List.rec (motive:=fun _=>List Nat->Nat->Bool) (fun _ _=>true) (fun o _ ih ms i=>zab (zab (q9b P o) (zck P i (qsf ms) hd ms0 0) true) (ih (qxd ms) (Nat.succ i)) false) ops
def jfd (os:Array Oper) (s:Nat) (ms:List Nat):za1:=fun k fr rest c H go =>
 zab (qol c.P os s ms)
  (zab (qdr c.P (qta os.toList (Nat.pred s)) ms (qta os.toList (Nat.pred s)) ms 0) (qbr qys os (Nat.pred s) ms k fr rest c H go) (q5v os k fr rest c H go))
  (zab (qdr c.P (qta os.toList s) ms (qta os.toList s) ms 0) (qar qys os s ms k fr rest c H go) (q5v os k fr rest c H go))
def jgd (os:Array Oper) (s:Nat) (ms:List Nat):za1:=zab (qv6 (qta os.toList s)) (zab (qo1 os.toList) (qz3 qys os s ms) (jfd os s ms)) (jcd os s ms)
def q03 (os:Array Oper):za1:=fun k fr rest c H go=>zab (c.each os) (q5v os k fr rest c H go) (jgd os (qke (qca os.toList []) 0) (qca os.toList []) k fr rest c H go)
def jpe (draw:Bool) (os:Array Oper):za1:=zab draw (q03 os) (zh6 os)
def jqe (f:Operand) (ps:Array Tmp) (a b:Code):za1:=fun k fr rest c H go=>q0w c f ps a b fr k rest H go
def noT:za1:=fun _ _ _ _ _ _=>.stuck 419
def jhd (x:Code):za1 :=
 Code.rec (motive:=fun _=>za1) zgM (fun _ os draw=>jpe draw os) (fun a b _ _=>seqT a b) (fun x a b _ _=>qt3 x a b) (fun id body _=>jyi id body) (fun body _=>jzi body)
  (fun f ps a b _ _=>jqe f ps a b) (fun id=>qu3 id) (fun body _=>j0i body) (fun _=>zgM) (fun _=>noT) retT (fun _=>noT) x
def opsT (os:Array Oper) (l:List Oper):za1:=List.rec (motive:=fun _=>za1) zgM (fun o l _=>opT o l os) l
def q5w:za1:=fun k fr rest _ H go =>
 match fr.roundOf with
 | some nm=>match q1i H nm with
   | some (.ready,p,f,T,ps,a,b,d)=>go ⟨{ fr with todo:=k }::rest,zbv H nm (.loop .busy p f T ps a b d)⟩
   | _=>.stuck 421
 | none=>.stuck 422
def q6w (nm:Nat):za1:=fun k fr rest _ H go =>
 match q1i H nm with
 | some (st,p,f,T,ps,a,b,d)=>match st with
   | .busy=>.stuck 423
   | _=>go ⟨{ fr with todo:=match p with | some j=>.code j::k | none=>k }::rest,zbv H nm (.loop .exhausted p f T ps a b d)⟩
 | none=>.stuck 424
def jid (x:zaK):za1:=zaK.rec (motive:=fun _=>za1) jhd (fun _=>zgM) zjv (fun _=>zgM) opsT (fun _=>noT) q6w q5w x
def jjd (t:List zaK):SF->List SF->Cfg->List SO->(SS->Tree)->Tree :=
 List.rec (motive:=fun _=>SF->List SF->Cfg->List SO->(SS->Tree)->Tree) (fun fr rest c H go=>qxo c fr rest H go) (fun x k _=>jid x k) t
def jre (frs:List SF):Cfg->List SO->(SS->Tree)->Tree :=
 List.rec (motive:=fun _=>Cfg->List SO->(SS->Tree)->Tree) (fun _ _ _=>.stuck 420) (fun fr rest _=>jjd fr.todo fr rest) frs
def Mem.free (m:Mem) (b:Nat):Prop:=(∀ a,a.block=b->m.cell a=none)/\m.own b=none
def Mem.fresh (m:Mem) (b:Nat):Nat:=@ite _ (m.free b) (Classical.propDecidable _) b (Classical.epsilon m.free)
def Mem.add (m:Mem) (b n cap:Nat) (el:TypeId) (V:Nat->Value):Mem :=
 ⟨fun a=>if a.block=b then (if a.spot=none/\a.off<n then some (V a.off) else none) else m.cell a,fun b'=>if b'=b then some (n,cap,el) else m.own b',m.old⟩
def Mem.drop (m:Mem) (b:Nat):Mem:=⟨fun a=>if a.block=b then none else m.cell a,fun b'=>if b'=b then none else m.own b',m.old⟩
abbrev Sub:=List (Nat × Nat × Nat)
def zdK (σ:Sub) (nm:Nat):Option (Nat × Nat):=List.rec (motive:=fun _=>Option (Nat × Nat)) none (fun p _ ih=>zab (Nat.beq p.1 nm) (some p.2) ih) σ
def zh8 (σ:Sub) (c:SC):Nat:=SC.rec (motive:=fun _=>Nat) (fun n=>n) (fun n=>n) (fun nm k=>zah (zdK σ nm) 0 fun p=>p.2 - k) c
def okC (σ:Sub) (c:SC):Bool:=SC.rec (motive:=fun _=>Bool) (fun _=>true) (fun _=>true) (fun nm _=>zah (zdK σ nm) false fun _=>true) c
def zer (σ:Sub) (v:SV):Value :=
 SV.rec (motive_1:=fun _=>Value) (motive_2:=fun _=>Unit) (fun k n=>.int k n.den) (fun b=>.bool b.den) (fun s=>.string s.den) (fun a=>zah (zdK σ a.nm) undef fun p=>.pointer (some ⟨p.1,a.off.den,none⟩)) (.pointer none)
  (fun a l c=>zah (zdK σ a.nm) undef fun p=>.slice (some ⟨p.1,a.off.den,none⟩) l.den (zh8 σ c)) (.slice none 0 0) (fun _=>undef) (.map none) (fun _ _ _ _ _=>undef) .nilFunc (fun _ _ _=>undef) .nilIface (fun _ _=>undef) (fun _ _=>undef) (fun v=>v) (fun _ _ _ _=>undef) () (fun _ _ _ _=>()) v
def okS (σ:Sub) (v:SV):Bool :=
 SV.rec (motive_1:=fun _=>Bool) (motive_2:=fun _=>Unit) (fun _ _=>true) (fun _=>true) (fun _=>true) (fun a=>zah (zdK σ a.nm) false fun _=>true) true
  (fun a _ c=>zah (zdK σ a.nm) false fun _=>okC σ c) true (fun _=>false) true (fun _ _ _ _ _=>false) true (fun _ _ _=>false) true (fun _ _=>false) (fun _ _=>false) (fun _=>true) (fun _ _ _ _=>false) () (fun _ _ _ _=>()) v
def q13 (σ:Sub) (c:Cells) (f:(Nat->Value)->Nat->Tree):Tree :=
 Cells.rec (motive:=fun _=>Tree) (fun l=>zab (zaO (okS σ) l) (f (atV (zas (zer σ) l)) (zay l)) (.stuck 960)) (fun g n=>.need (∀ j,j<n->okS σ (g j)=true) (f (fun j=>zer σ (g j)) n)) (fun V n=>f V n) c
def q23 (nm:Nat) (c:SC) (n:Nat):Nat:=SC.rec (motive:=fun _=>Nat) (fun _=>0) (fun _=>0) (fun nm' k=>zab (Nat.beq nm' nm) (zab (Nat.beq k 0) n 0) 0) c
def zdP (v:SV):List (Nat × Nat):=v.asSlice [] fun a l c=>[(a.nm,q23 a.nm c l.den)]
def q7m (l:List SV):List (Nat × Nat):=List.rec (motive:=fun _=>List (Nat × Nat)) [] (fun v _ ih=>app (zdP v) ih) l
def zhp (σ:Sub) (nm L:Nat) (H:List SO) (j:Nat) (m:Mem) (e:SO) (k:Sub->List SO->Tree):Tree :=
 SO.rec (motive:=fun _=>Tree) (fun c _ el=>q13 σ c fun V n=>.any fun z=>k ((nm,m.fresh (z 0),if L<=z 1 then z 1 else L)::σ) (zbv (zbv H nm .gone) j (.mem (m.add (m.fresh (z 0)) n (if L<=z 1 then z 1 else L) el V))))
  (fun _=>.stuck 961) (fun _ _ _ _ _ _ _ _=>.stuck 961) (fun _=>.stuck 961) (.stuck 961) (fun _=>.stuck 961) (fun _=>.stuck 961) e
def qlf (H:List SO) (j:Nat):Option Mem:=zah (nth H j) none fun e=>zgQ e none
def zhq (j:Nat) (p:Nat × Nat) (σ:Sub) (H:List SO) (k:Sub->List SO->Tree):Tree :=
 zah (zdK σ p.1) (zah (qlf H j) (.stuck 962) fun m=>zah (nth H p.1) (.stuck 962) fun e=>zhp σ p.1 p.2 H j m e k) fun _=>k σ H
def zfs (j:Nat) (l:List (Nat × Nat)):Sub->List SO->(Sub->List SO->Tree)->Tree :=
 List.rec (motive:=fun _=>Sub->List SO->(Sub->List SO->Tree)->Tree) (fun σ H k=>k σ H) (fun p _ ih σ H k=>zhq j p σ H fun σ H=>ih σ H k) l
def recO (σ:Sub) (nm:Nat) (H:List SO) (e:SO) (k:List SO->Tree):Tree :=
 SO.rec (motive:=fun _=>Tree) (fun c w el=>q13 σ c fun V n=>k (zbv H nm (.own (.raw V n) w el))) (fun _=>k H) (fun _ _ _ _ _ _ _ _=>k H) (fun _=>k H) (k H) (fun _=>k H) (fun _=>k H) e
def zhs (σ:Sub) (nm:Nat) (H:List SO) (k:List SO->Tree):Tree:=zah (nth H nm) (k H) fun e=>recO σ nm H e k
def zhr (σ:Sub) (l:List Nat):List SO->(List SO->Tree)->Tree :=
 List.rec (motive:=fun _=>List SO->(List SO->Tree)->Tree) (fun H k=>k H) (fun nm _ ih H k=>zhs σ nm H fun H=>ih H k) l
def j4i (o:Oper):Bool:=match o.op with | .buildSlice .. => true | .call c=>(match c.callee with | .builtin b=>(match b with | .append=>true | _=>false) | _=>false) | _=>false
def zjr (T:List SV) (o:Oper):List Nat:=zab (j4i o) (zah o.dst [] fun d=>zah (nth T d) [] fun v=>v.asSlice [] fun a _ _=>[a.nm]) []
def jkd (T:List SV) (os:List Oper):List Nat:=List.rec (motive:=fun _=>List Nat) [] (fun o _ ih=>app (zjr T o) ih) os
def zjt (e:SO):List (Nat × Nat):=SO.rec (motive:=fun _=>List (Nat × Nat)) (fun c _ _=>Cells.rec (motive:=fun _=>List (Nat × Nat)) (fun l=>q7m l) (fun _ _=>[]) (fun _ _=>[]) c) (fun _=>[]) (fun _ _ _ _ _ _ _ _=>[]) (fun _=>[]) [] (fun _=>[]) (fun _=>[]) e
def qer (H:List SO) (l:List Nat):List (Nat × Nat):=List.rec (motive:=fun _=>List (Nat × Nat)) [] (fun nm _ ih=>app (zah (nth H nm) [] zjt) ih) l
def fnE (e:SO):Bool:=SO.rec (motive:=fun _=>Bool) (fun c _ _=>Cells.rec (motive:=fun _=>Bool) (fun l=>zfe (q7m l)) (fun _ _=>true) (fun _ _=>false) c) (fun _=>false) (fun _ _ _ _ _ _ _ _=>false) (fun _=>false) false (fun _=>false) (fun _=>false) e
where zfe (l:List (Nat × Nat)):Bool:=List.rec (motive:=fun _=>Bool) false (fun _ _ _=>true) l
def fnsE (H:List SO) (l:List Nat):List Nat:=List.rec (motive:=fun _=>List Nat) [] (fun nm _ ih=>zab (zah (nth H nm) false fnE) (nm::ih) ih) l
def q6v (j:Nat) (l:List Nat) (H:List SO) (k:List SO->Tree):Tree :=
 List.rec (motive:=fun _=>Tree) (k H) (fun p r _=>zfs j (p::r) [] H fun σ H'=>zhr σ (fnsE H' l) H' k) (qer H l)
def zhk (x:Operand):Option Nat:=Operand.rec (motive:=fun _=>Option Nat) (fun t=>some t) (fun _=>none) (fun _=>none) (fun _=>none) x
def q8m (σ:Sub) (v:SV):SV:=v.asAgg (List.rec (motive:=fun _=>SV) v (fun _ _ _=>.val (zer σ v)) (zdP v)) fun l=>.agg (zas (fun v=>List.rec (motive:=fun _=>SV) v (fun _ _ _=>.val (zer σ v)) (zdP v)) l)
def zgq (σ:Sub) (v:SV):Bool:=v.asAgg (List.rec (motive:=fun _=>Bool) true (fun _ _ _=>okS σ v) (zdP v)) fun l=>zaO (fun v=>List.rec (motive:=fun _=>Bool) true (fun _ _ _=>okS σ v) (zdP v)) l
def q9m (v:SV):List (Nat × Nat):=v.asAgg (zdP v) q7m
def qrl (j:Nat) (x:Operand) (T:List SV) (H:List SO) (k:List SV->List SO->Tree):Tree :=
 zah (zhk x) (k T H) fun t=>zah (nth T t) (k T H) fun v=>List.rec (motive:=fun _=>Tree) (k T H) (fun p r _=>zfs j (p::r) [] H fun σ H'=>zab (zgq σ v) (k (zbv T t (q8m σ v)) H') (.stuck 963)) (q9m v)
def borrow (j:Nat) (m:Mem) (y:Value) (el:TypeId) (t:Nat) (T:List SV) (H:List SO) (k:List SV->List SO->Tree):Tree :=
 zab (qwj (zbv H j .gone)) (.need (qhg y/\zaL y<=zbY y/\zaV y=⟨(zaV y).block,0,none⟩/\∃ n,m.own (zaV y).block=some (n,zbY y,el))
  (k (zbv T t (.slice ⟨zay H,.lit 0⟩ (.sym (zaL y)) (.rest (zay H) 0))) (app (zbv H j (.mem (m.drop (zaV y).block))) [.own (.raw (fun i=>zcY m ⟨(zaV y).block,0,none⟩ i) (zah (m.own (zaV y).block) 0 fun p=>p.1)) false el]))) (.stuck 964)
def q7v (P:Program) (j:Nat) (c:Call) (T:List SV) (H:List SO) (k:List SV->List SO->Tree):Tree :=
 zah (nth c.args.toList 0) (k T H) fun x=>zah (zhk x) (k T H) fun t=>zah (nth T t) (k T H) fun v=>v.zc3 (k T H) fun y =>
  zah (nth c.argTypes.toList 0) (k T H) fun st=>zah (P.underlying st) (k T H) fun d=>TypeDesc.zga d (k T H) fun el=>zah (qlf H j) (k T H) fun m=>borrow j m y el t T H k
def zkL (e:SO):Bool:=match e with | .obj (.zaU _ _ _ _)=>true | _=>false
def j5i (v:SV):Option Nat:=match v with | .map nm=>some nm | _=>none
def zjG (H:List SO) (v:SV):Bool:=zah (j5i v) false fun nm=>zah (nth H nm) false zkL
def zjD (H:List SO) (v:SV):Bool:=v.zem false fun a=>zhu (nth H a.nm)
def q7w (c:Cfg) (j:Nat) (os:Array Oper) (cl:Call) (T:List SV) (H:List SO) (k:List SV->List SO->Tree):Tree :=
 match cl.callee with
 | .builtin b=>(match b with | .append=>zab (c.each os) (q7v c.P j cl T H k) (k T H) | _=>k T H)
 | _=>k T H
def q8w (c:Cfg) (j:Nat) (os:Array Oper) (o:Oper) (T:List SV) (H:List SO) (k:List SV->List SO->Tree):Tree :=
 match o.guard with
 | some _=>k T H
 | none=>match o.op with
   | .mapUpdate _ m _ x=>zab (zjG H (evS c.glob T m)) (qrl j x T H k) (k T H)
   | .store _ a x=>zab (zjD H (evS c.glob T a)) (qrl j x T H k) (k T H)
   | .call cl=>q7w c j os cl T H k
   | _=>k T H
def qx6 (c:Cfg) (j:Nat) (x:zaK) (T:List SV) (H:List SO) (k:List SV->List SO->Tree):Tree :=
 zaK.rec (motive:=fun _=>Tree) (fun _=>k T H) (fun _=>k T H) (fun _=>k T H) (fun _=>k T H)
  (fun os l=>List.rec (motive:=fun _=>Tree) (q6v j (jkd T os.toList) H fun H=>k T H) (fun o _ _=>q8w c j os o T H k) l) (fun _=>k T H) (fun _=>k T H) (k T H) x
def qy6 (c:Cfg) (j:Nat) (fr:SF) (H:List SO) (k:SF->List SO->Tree):Tree :=
 List.rec (motive:=fun _=>Tree) (k fr H) (fun x _ _=>qx6 c j x fr.tmps H fun T H=>k ⟨fr.fn,T,fr.todo,fr.defers,fr.roundOf⟩ H) fr.todo
def q9w (c:Cfg) (j:Nat) (s:SS) (k:SS->Tree):Tree :=
 List.rec (motive:=fun _=>Tree) (k s) (fun fr rest _=>qy6 c j fr s.heap fun fr H=>k ⟨fr::rest,H⟩) s.frames
def qn9 (t:List zaK) (b:Bool):Bool:=List.rec (motive:=fun _=>Bool) false (fun x _ _=>zaK.rec (motive:=fun _=>Bool) (fun _=>false) (fun _=>false) (fun _=>b) (fun _=>false) (fun _ _=>false) (fun _=>false) (fun _=>false) false x) t
def zia (n:Nat × Nat) (frs:List SF):Bool:=List.rec (motive:=fun _=>Bool) false (fun fr _ _=>qn9 fr.todo (zab (Nat.beq (zay frs) n.1) (zab (Nat.beq n.2 0) true (Nat.beq (zay fr.todo) n.2)) false)) frs
def q33 (c:Cfg) (s:SS):Bool:=zah c.zeE false fun n=>zia n s.frames
def q8v (c:Cfg) (s:SS) (go:SS->Tree):Tree:=jre s.frames c s.heap go
def qfr (c:Cfg) (s:SS) (go:SS->Tree):Tree:=zah c.zej (q8v c s go) fun j=>q9w c j s fun s=>q8v c s go
def simS (c:Cfg) (s:SS) (ih:SS->Tree) (b:Bool):Tree:=zab b (.stop s) (qfr c s ih)
def sim (c:Cfg) (n:Nat):SS->Tree :=
 Nat.rec (motive:=fun _=>SS->Tree) (fun s=>.stop s) (fun _ ih s=>simS c s ih (q33 c s)) n
def za9 (c:Cfg) (n:Nat) (s:SS):Tree:=qfr c s (sim c n)
end
end
end Go.Sim
