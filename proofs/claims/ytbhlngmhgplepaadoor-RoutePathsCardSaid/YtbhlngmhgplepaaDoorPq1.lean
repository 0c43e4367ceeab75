/-
  zda behind one another: the symbolic simulator and what it is told of the program.
-/
import Derived.AtR
import Derived.Orders
import Derived.KernelRfl
namespace Go.Sim
noncomputable section
noncomputable section
def nth {α:Type} (l:List α):Nat->Option α :=
 List.rec (motive:=fun _=>Nat->Option α) (fun _=>none) (fun a _ ih n=>Nat.rec (motive:=fun _=>Option α) (some a) (fun m _=>ih m) n) l
def zbz {α:Type} (l:List α):Nat->α->List α :=
 List.rec (motive:=fun _=>Nat->α->List α) (fun _ _=>[]) (fun a t ih n v=>Nat.rec (motive:=fun _=>List α) (v::t) (fun m _=>a::ih m v) n) l
def app {α:Type} (l r:List α):List α:=List.rec (motive:=fun _=>List α) r (fun a _ ih=>a::ih) l
def qza {α:Type} (l:List α):Nat->List α :=
 List.rec (motive:=fun _=>Nat->List α) (fun _=>[]) (fun a _ ih n=>Nat.rec (motive:=fun _=>List α) [] (fun m _=>a::ih m) n) l
def qwb {α:Type} (l:List α):Nat->List α :=
 List.rec (motive:=fun _=>Nat->List α) (fun _=>[]) (fun a t ih n=>Nat.rec (motive:=fun _=>List α) (a::t) (fun m _=>ih m) n) l
def zar {α β:Type} (f:α->β) (l:List α):List β:=List.rec (motive:=fun _=>List β) [] (fun a _ ih=>f a::ih) l
def zay {α:Type} (l:List α):Nat:=List.rec (motive:=fun _=>Nat) 0 (fun _ _ ih=>Nat.succ ih) l
def zaX {α:Type} (a:α) (n:Nat):List α:=Nat.rec (motive:=fun _=>List α) [] (fun _ ih=>a::ih) n
def qsa (n:Nat):Nat->List Nat:=Nat.rec (motive:=fun _=>Nat->List Nat) (fun _=>[]) (fun _ ih k=>k::ih (Nat.succ k)) n
def qvj {α:Type} (l:List α):Nat->List α->List α :=
 List.rec (motive:=fun _=>Nat->List α->List α) (fun _ _=>[])
  (fun a t ih n v=>Nat.rec (motive:=fun _=>List α) (List.casesOn (motive:=fun _=>List α) v (a::t) (fun x v'=>x::ih 0 v')) (fun m _=>a::ih m v) n) l
inductive SI where
 | lit (n:Int)
 | sym (n:Int)
 | b8 (x:BitVec 8)
 | b32 (x:BitVec 32)
 | b64 (x:BitVec 64)
def SI.den:SI->Int
 | .lit n=>n
 | .sym n=>n
 | .b8 x=>(x.toNat:Int)
 | .b32 x=>(x.toNat:Int)
 | .b64 x=>(x.toNat:Int)
inductive SB where
 | lit (b:Bool)
 | sym (b:Bool)
def SB.den:SB->Bool
 | .lit b=>b
 | .sym b=>b
inductive SN where
 | lit (n:Nat)
 | sym (n:Nat)
 | byt (o:Nat) (x:BitVec 8)
def SN.den:SN->Nat
 | .lit n=>n
 | .sym n=>n
 | .byt o x=>o+x.toNat
inductive zbg where
 | lit (s:ByteArray)
 | sym (s:ByteArray)
 | bytes (l:List SI)
def qmc (l:List SI):ByteArray:=⟨(l.map fun i=>UInt8.ofNat i.den.toNat).toArray⟩
def zbg.den:zbg->ByteArray
 | .lit s=>s
 | .sym s=>s
 | .bytes l=>qmc l
structure Loc where
 blk:Nat
 off:Nat
 cap:Nat
abbrev Val:=Nat->Option Loc
inductive SC where
 | lit (n:Nat)
 | sym (n:Nat)
 | rest (nm:Nat) (k:Nat)
def SC.den (β:Val):SC->Option Nat
 | .lit n=>some n
 | .sym n=>some n
 | .rest nm k=>(β nm).map fun l=>l.cap - k
structure SA where
 nm:Nat
 off:SN
def SA.den (β:Val) (a:SA):Option Addr:=(β a.nm).map fun l=>{ block:=l.blk,off:=l.off+a.off.den,spot:=none }
inductive SFn where
 | fn (f:Fn)
 | yield (nm:Nat)
def SFn.den (β:Val):SFn->Option Fn
 | .fn f=>some f
 | .yield nm=>(β nm).map fun l=>.yield l.blk
inductive SV where
 | int (k:IntKind) (n:SI)
 | bool (b:SB)
 | str (s:zbg)
 | ptr (a:SA)
 | nilPtr
 | slice (a:SA) (len:SN) (cap:SC)
 | zac
 | map (nm:Nat)
 | zaD
 | func (fn:SFn) (first captured:List SV)
 | nilFunc
 | iface (t:TypeId) (v:SV)
 | nilIface
 | agg (l:List SV)
 | tuple (l:List SV)
 | val (v:Value)
 | tail (a:SA) (n:SN) (len:SN) (c:SC)
instance:Inhabited SV:=⟨.tuple []⟩
def qbn (x:Addr) (l c:Nat):Option Value:=if l<=c then some (.slice (some x) l c) else none
def qn3 (x:Addr) (n l c:Nat):Option Value:=if l<=c then some (.slice (some (if c=0 then x else x.add n)) l c) else none
mutual
def SV.den (β:Val):SV->Option Value
 | .int k n=>some (.int k n.den)
 | .bool b=>some (.bool b.den)
 | .str s=>some (.string s.den)
 | .ptr a=>(a.den β).map fun x=>.pointer (some x)
 | .nilPtr=>some (.pointer none)
 | .slice a l c=>(a.den β).bind fun x=>(c.den β).bind fun c=>qbn x l.den c
 | .zac=>some (.slice none 0 0)
 | .map nm=>(β nm).map fun l=>.map (some l.blk)
 | .zaD=>some (.map none)
 | .func f xs ys=>(f.den β).bind fun f=>(SV.zak β xs).bind fun xs=>(SV.zak β ys).map fun ys=>.func f xs.toArray ys.toArray
 | .nilFunc=>some .nilFunc
 | .iface t v=>(v.den β).map fun v=>.iface t v
 | .nilIface=>some .nilIface
 | .agg l=>(SV.zak β l).map fun l=>.agg l.toArray
 | .tuple l=>(SV.zak β l).map fun l=>.tuple l.toArray
 | .val v=>some v
 | .tail a n l c=>(a.den β).bind fun x=>(c.den β).bind fun c=>qn3 x n.den l.den c
def SV.zak (β:Val):List SV->Option (List Value)
 | []=>some []
 | v::l=>(v.den β).bind fun v=>(SV.zak β l).map fun l=>v::l
end
def qwa:SV:=.tuple []
inductive SD where
 | coll (nm:Nat)
 | call (fn:SFn) (args captured:List SV)
inductive Cells where
 | lst (l:List SV)
 | fn (f:Nat->SV) (n:Nat)
 | raw (f:Nat->Value) (n:Nat)
inductive SK where
 | i (k:IntKind)
 | b
 | s
 | v
structure MSh where
 agg:Bool
 cells:List SK
def zfP (v:Value):Int:=match v with | .int _ n=>n | _=>0
def zd8 (v:Value):Bool:=match v with | .bool b=>b | _=>false
def zcQ (v:Value):ByteArray:=match v with | .string s=>s | _=>.empty
def siK (k:IntKind) (n:Int):SI:=IntKind.rec (motive:=fun _=>SI) (.sym n) (.sym n) (.sym n) (.sym n) (.b8 (BitVec.ofInt 8 n)) (.sym n) (.b32 (BitVec.ofInt 32 n)) (.b64 (BitVec.ofInt 64 n)) k
def zgb (k:SK) (v:Value):SV:=SK.rec (motive:=fun _=>SV) (fun k=>.int k (siK k (zfP v))) (.bool (.sym (zd8 v))) (.str (.sym (zcQ v))) (.val v) k
def q8q (v:Value) (j:Nat):Value:=match v with | .agg a=>a.toList.getD j undef | v=>v
def q1o (v:Value) (ks:List SK):Nat->List SV:=List.rec (motive:=fun _=>Nat->List SV) (fun _=>[]) (fun k _ ih j=>zgb k (q8q v j)::ih (Nat.succ j)) ks
def zkQ (ks:List SK):SK:=List.rec (motive:=fun _=>SK) .v (fun k _ _=>k) ks
def MSh.see (s:MSh) (v:Value):SV:=Bool.rec (motive:=fun _=>SV) (zgb (zkQ s.cells) v) (.agg (q1o v s.cells 0)) s.agg
def MSh.fit (s:MSh) (v:Value):Prop:=∀ β,(s.see v).den β=some v
def zcK (k:SK) (v:Value):Prop:=∀ β,(zgb k v).den β=some v
inductive za7 where
 | map (es:List (SV × SV × Nat)) (clock:Nat)
 | iter (m:Option Nat) (since:Nat) (seen:List Nat) (last:Nat)
 | str (s:zbg) (pos:Nat)
 | za6 (ks vs:MSh) (es:List MapEntry) (clock:Nat)
structure Mem where
 cell:Addr->Option Value
 own:Nat->Option (Nat × Nat × TypeId)
 old:Nat->Prop
inductive SO where
 | own (c:Cells) (whole:Bool) (elem:TypeId)
 | row (c:Cells)
 | loop (state:LoopState) (pending:Option Code) (fn:FuncId) (tmps:List SV) (params:Array Tmp) (assign body:Code) (defers:Nat)
 | deferred (ds:Option (List SD))
 | gone
 | obj (o:za7)
 | mem (m:Mem)
inductive R (α:Type) where
 | ok (a:α)
 | need (p:Prop) (r:R α)
 | fork (b:Bool) (t f:R α)
 | stuck (n:Nat)
 | any (k:(Nat->Nat)->R α)
def R.bind {α β:Type} (r:R α) (f:α->R β):R β :=
 R.rec (motive:=fun _=>R β) (fun a=>f a) (fun p _ ih=>.need p ih) (fun b _ _ t f=>.fork b t f) (fun n=>.stuck n) (fun _ ih=>.any ih) r
def R.opt {α β:Type} (n:Nat) (o:Option α) (f:α->R β):R β:=Option.rec (motive:=fun _=>R β) (.stuck n) (fun a=>f a) o
def zah {α β:Type} (o:Option α) (d:β) (f:α->β):β:=Option.rec (motive:=fun _=>β) d (fun a=>f a) o
def zab {β:Type} (b:Bool) (t f:β):β:=Bool.rec (motive:=fun _=>β) f t b
def SV.asInt {β:Type} (v:SV) (d:β) (f:IntKind->SI->β):β :=
 SV.rec (motive_1:=fun _=>β) (motive_2:=fun _=>Unit) (fun k n=>f k n) (fun _=>d) (fun _=>d) (fun _=>d) d (fun _ _ _=>d) d (fun _=>d) d (fun _ _ _ _ _=>d) d (fun _ _ _=>d) d (fun _ _=>d) (fun _ _=>d) (fun _=>d) (fun _ _ _ _=>d) () (fun _ _ _ _=>()) v
def SV.asBool {β:Type} (v:SV) (d:β) (f:SB->β):β :=
 SV.rec (motive_1:=fun _=>β) (motive_2:=fun _=>Unit) (fun _ _=>d) (fun b=>f b) (fun _=>d) (fun _=>d) d (fun _ _ _=>d) d (fun _=>d) d (fun _ _ _ _ _=>d) d (fun _ _ _=>d) d (fun _ _=>d) (fun _ _=>d) (fun _=>d) (fun _ _ _ _=>d) () (fun _ _ _ _=>()) v
def SV.zeJ {β:Type} (v:SV) (d:β) (f:SA->β):β :=
 SV.rec (motive_1:=fun _=>β) (motive_2:=fun _=>Unit) (fun _ _=>d) (fun _=>d) (fun _=>d) (fun a=>f a) d (fun _ _ _=>d) d (fun _=>d) d (fun _ _ _ _ _=>d) d (fun _ _ _=>d) d (fun _ _=>d) (fun _ _=>d) (fun _=>d) (fun _ _ _ _=>d) () (fun _ _ _ _=>()) v
def SV.asSlice {β:Type} (v:SV) (d:β) (f:SA->SN->SC->β):β :=
 SV.rec (motive_1:=fun _=>β) (motive_2:=fun _=>Unit) (fun _ _=>d) (fun _=>d) (fun _=>d) (fun _=>d) d (fun a l c=>f a l c) d (fun _=>d) d (fun _ _ _ _ _=>d) d (fun _ _ _=>d) d (fun _ _=>d) (fun _ _=>d) (fun _=>d) (fun _ _ _ _=>d) () (fun _ _ _ _=>()) v
def SV.zeC {β:Type} (v:SV) (d:β) (f:SFn->List SV->List SV->β):β :=
 SV.rec (motive_1:=fun _=>β) (motive_2:=fun _=>Unit) (fun _ _=>d) (fun _=>d) (fun _=>d) (fun _=>d) d (fun _ _ _=>d) d (fun _=>d) d (fun g xs ys _ _=>f g xs ys) d (fun _ _ _=>d) d (fun _ _=>d) (fun _ _=>d) (fun _=>d) (fun _ _ _ _=>d) () (fun _ _ _ _=>()) v
def SV.asAgg {β:Type} (v:SV) (d:β) (f:List SV->β):β :=
 SV.rec (motive_1:=fun _=>β) (motive_2:=fun _=>Unit) (fun _ _=>d) (fun _=>d) (fun _=>d) (fun _=>d) d (fun _ _ _=>d) d (fun _=>d) d (fun _ _ _ _ _=>d) d (fun _ _ _=>d) d (fun l _=>f l) (fun _ _=>d) (fun _=>d) (fun _ _ _ _=>d) () (fun _ _ _ _=>()) v
def SV.asTuple {β:Type} (v:SV) (d:β) (f:List SV->β):β :=
 SV.rec (motive_1:=fun _=>β) (motive_2:=fun _=>Unit) (fun _ _=>d) (fun _=>d) (fun _=>d) (fun _=>d) d (fun _ _ _=>d) d (fun _=>d) d (fun _ _ _ _ _=>d) d (fun _ _ _=>d) d (fun _ _=>d) (fun l _=>f l) (fun _=>d) (fun _ _ _ _=>d) () (fun _ _ _ _=>()) v
def qwh (v:SV):Bool :=
 SV.rec (motive_1:=fun _=>Bool) (motive_2:=fun _=>Unit) (fun _ _=>true) (fun _=>true) (fun _=>true) (fun _=>true) true (fun _ _ _=>true) true (fun _=>true) true (fun _ _ _ _ _=>true) true (fun _ _ _=>true) true (fun _ _=>false) (fun _ _=>false) (fun _=>false) (fun _ _ _ _=>true) () (fun _ _ _ _=>()) v
def SV.zdo {β:Type} (v:SV) (d:β) (f:Value->β):β :=
 SV.rec (motive_1:=fun _=>β) (motive_2:=fun _=>Unit) (fun _ _=>d) (fun _=>d) (fun _=>d) (fun _=>d) d (fun _ _ _=>d) d (fun _=>d) d (fun _ _ _ _ _=>d) d (fun _ _ _=>d) d (fun _ _=>d) (fun _ _=>d) (fun v=>f v) (fun _ _ _ _=>d) () (fun _ _ _ _=>()) v
def qlg (v:SV):List SV:=v.asAgg [v] fun l=>l
def qqi {α:Type} (l:List SV) (r:R α):R α:=List.rec (motive:=fun _=>R α) r (fun v _ ih=>v.zdo ih fun x=>.need (x.oneCell'=true) ih) l
def qqk:Value->SV
 | .bool b=>.bool (.lit b)
 | .int k n=>.int k (.lit n)
 | .string s=>.str (.lit s)
 | .pointer none=>.nilPtr
 | .slice none 0 0=>.zac
 | .map none=>.zaD
 | .nilFunc=>.nilFunc
 | .nilIface=>.nilIface
 | v=>.val v
def q9q:Value->SV
 | .agg ⟨l⟩=>.agg (zar qqk l)
 | .tuple ⟨[]⟩=>.tuple []
 | .func f ⟨[]⟩ ⟨[]⟩=>.func (.fn f) [] []
 | v=>qqk v
def zhh (k:IntKind):Nat:=IntKind.rec (motive:=fun _=>Nat) 127 32767 2147483647 9223372036854775807 255 65535 4294967295 18446744073709551615 k
def idxK (k:IntKind):Nat:=IntKind.rec (motive:=fun _=>Nat) 0 1 2 3 4 5 6 7 k
def eqK (a b:IntKind):Bool:=Nat.beq (idxK a) (idxK b)
def zdO {β:Type} (n:Int) (f g:Nat->β):β:=Int.rec (motive:=fun _=>β) (fun m=>f m) (fun m=>g m) n
def qwj (k:IntKind) (n:Int):Int:=zdO n (fun m=>Bool.rec (motive:=fun _=>Int) (k.wrap n) (.ofNat m) (Nat.ble m (zhh k))) (fun _=>k.wrap n)
def ltI (x y:Int):Bool:=zdO x (fun a=>zdO y (fun b=>Nat.blt a b) (fun _=>false)) (fun a=>zdO y (fun _=>true) (fun b=>Nat.blt b a))
def eqI (x y:Int):Bool:=zdO x (fun a=>zdO y (fun b=>Nat.beq a b) (fun _=>false)) (fun a=>zdO y (fun _=>false) (fun b=>Nat.beq a b))
def addI (x y:Int):Int:=zdO x (fun a=>zdO y (fun b=>.ofNat (Nat.add a b)) (fun _=>x+y)) (fun _=>x+y)
def SI.zba {β:Type} (x:SI) (d:β) (f:Int->β):β:=SI.rec (motive:=fun _=>β) (fun n=>f n) (fun _=>d) (fun _=>d) (fun _=>d) (fun _=>d) x
def SN.zba {β:Type} (x:SN) (d:β) (f:Nat->β):β:=SN.rec (motive:=fun _=>β) (fun n=>f n) (fun _=>d) (fun _ _=>d) x
def i8 (x:SI):Option (BitVec 8):=SI.rec (motive:=fun _=>Option (BitVec 8)) (fun n=>some (BitVec.ofInt 8 n)) (fun _=>none) (fun x=>some x) (fun _=>none) (fun _=>none) x
def i32 (x:SI):Option (BitVec 32):=SI.rec (motive:=fun _=>Option (BitVec 32)) (fun n=>some (BitVec.ofInt 32 n)) (fun _=>none) (fun _=>none) (fun x=>some x) (fun _=>none) x
def i64 (x:SI):Option (BitVec 64):=SI.rec (motive:=fun _=>Option (BitVec 64)) (fun n=>some (BitVec.ofInt 64 n)) (fun _=>none) (fun _=>none) (fun _=>none) (fun x=>some x) x
def qze (op:BinOp) (k:IntKind) (x y:Int):Int :=
 let a:=BitVec.ofInt k.bits x
 let b:=BitVec.ofInt k.bits y
 match op with
 | .and=>k.wrap (a &&& b).toNat
 | .or=>k.wrap (a ||| b).toNat
 | .xor=>k.wrap (a ^^^ b).toNat
 | _=>k.wrap (a &&& ~~~b).toNat
def q9v (w:Nat) (a b:BitVec w):Option (BitVec w):=some (a+b)
def qaw (w:Nat) (a b:BitVec w):Option (BitVec w):=some (a - b)
def qbw (w:Nat) (a b:BitVec w):Option (BitVec w):=some (a * b)
def qar (w:Nat) (a b:BitVec w):Option (BitVec w):=some (a &&& b)
def zhI (w:Nat) (a b:BitVec w):Option (BitVec w):=some (a ||| b)
def qbr (w:Nat) (a b:BitVec w):Option (BitVec w):=some (a ^^^ b)
def qnl (w:Nat) (a b:BitVec w):Option (BitVec w):=some (a &&& ~~~b)
def qae (w:Nat) (_a _b:BitVec w):Option (BitVec w):=none
def zfI (op:BinOp):(w:Nat)->BitVec w->BitVec w->Option (BitVec w) :=
 BinOp.rec (motive:=fun _=>(w:Nat)->BitVec w->BitVec w->Option (BitVec w)) q9v qaw qbw qae qae qar zhI qbr qae qae qnl qae qae qae qae qae qae op
def j6c (k:IntKind) (x y:Int):Option Int:=some (qwj k (addI x y))
def j7c (k:IntKind) (x y:Int):Option Int:=some (qwj k (Int.sub x y))
def j8c (k:IntKind) (x y:Int):Option Int:=some (qwj k (Int.mul x y))
def j9c (k:IntKind) (x y:Int):Option Int:=some (qze .and k x y)
def arOr (k:IntKind) (x y:Int):Option Int:=some (qze .or k x y)
def jad (k:IntKind) (x y:Int):Option Int:=some (qze .xor k x y)
def q9w (k:IntKind) (x y:Int):Option Int:=some (qze .andNot k x y)
def q3e (_k:IntKind) (_x _y:Int):Option Int:=none
def qcr (op:BinOp):IntKind->Int->Int->Option Int :=
 BinOp.rec (motive:=fun _=>IntKind->Int->Int->Option Int) j6c j7c j8c q3e q3e j9c arOr jad q3e q3e q9w q3e q3e q3e q3e q3e q3e op
def jbd (x y:Int):Option Int:=some (x+y)
def jcd (x y:Int):Option Int:=some (x - y)
def qhd (_x _y:Int):Option Int:=none
def qax (op:BinOp):Int->Int->Option Int :=
 BinOp.rec (motive:=fun _=>Int->Int->Option Int) jbd jcd qhd qhd qhd qhd qhd qhd qhd qhd qhd qhd qhd qhd qhd qhd qhd op
def qra (n:Int):Prop := -9223372036854775808<=n/\n<=9223372036854775807
def arLL (a b:Int) (op:BinOp) (k:IntKind):R SI:=R.opt 100 (qcr op k a b) fun n=>.ok (.lit n)
def qzf (op:BinOp) (k:IntKind) (x y:SI):R SI:=R.opt 102 (qcr op k x.den y.den) fun n=>.ok (.sym n)
def zlu (a:BitVec 8) (op:BinOp) (x y:SI):R SI:=Option.rec (motive:=fun _=>R SI) (qzf op .u8 x y) (fun b=>R.opt 101 (zfI op 8 a b) fun n=>.ok (.b8 n)) (i8 y)
def ar8 (op:BinOp) (x y:SI):R SI:=Option.rec (motive:=fun _=>R SI) (qzf op .u8 x y) (fun a=>zlu a op x y) (i8 x)
def qo3 (a:BitVec 32) (op:BinOp) (x y:SI):R SI:=Option.rec (motive:=fun _=>R SI) (qzf op .u32 x y) (fun b=>R.opt 101 (zfI op 32 a b) fun n=>.ok (.b32 n)) (i32 y)
def zlw (op:BinOp) (x y:SI):R SI:=Option.rec (motive:=fun _=>R SI) (qzf op .u32 x y) (fun a=>qo3 a op x y) (i32 x)
def qp3 (a:BitVec 64) (op:BinOp) (x y:SI):R SI:=Option.rec (motive:=fun _=>R SI) (qzf op .u64 x y) (fun b=>R.opt 101 (zfI op 64 a b) fun n=>.ok (.b64 n)) (i64 y)
def zlv (op:BinOp) (x y:SI):R SI:=Option.rec (motive:=fun _=>R SI) (qzf op .u64 x y) (fun a=>qp3 a op x y) (i64 x)
def qrk (op:BinOp) (x y:SI):R SI:=Option.rec (motive:=fun _=>R SI) (qzf op .i64 x y) (fun n=>.need (qra n) (.ok (.sym n))) (qax op x.den y.den)
def qq3 (x:SI):Option (BitVec 32):=SI.rec (motive:=fun _=>Option (BitVec 32)) (fun _=>none) (fun _=>none) (fun _=>none) (fun x=>some x) (fun _=>none) x
def q0e (_a _b:BitVec 32):Option (BitVec 32):=none
def qcw (op:BinOp):BitVec 32->BitVec 32->Option (BitVec 32) :=
 BinOp.rec (motive:=fun _=>BitVec 32->BitVec 32->Option (BitVec 32)) q0e q0e q0e q0e q0e (qar 32) (zhI 32) (qbr 32) q0e q0e q0e q0e q0e q0e q0e q0e q0e op
def qr3 (op:BinOp) (x y:SI):R SI:=Option.rec (motive:=fun _=>R SI) (qrk op x y) (fun a=>Option.rec (motive:=fun _=>R SI) (qrk op x y) (fun b=>Option.rec (motive:=fun _=>R SI) (qrk op x y) (fun z=>.ok (.b32 z)) (qcw op a b)) (qq3 y)) (qq3 x)
def arK (k:IntKind):BinOp->SI->SI->R SI :=
 IntKind.rec (motive:=fun _=>BinOp->SI->SI->R SI) (fun op=>qzf op .i8) (fun op=>qzf op .i16) (fun op=>qzf op .i32) qr3 ar8 (fun op=>qzf op .u16) zlw zlv k
def qsk (op:BinOp) (k:IntKind) (x y:SI):R SI:=x.zba (arK k op x y) fun a=>y.zba (arK k op x y) fun b=>arLL a b op k
def dvLL (a b:Int) (op:BinOp) (k:IntKind):R SI :=
 match op with
 | .quo=>.ok (.lit (qwj k (Int.tdiv a b)))
 | _=>.ok (.lit (Int.tmod a b))
def qol (op:BinOp) (k:IntKind) (x y:SI):R SI :=
 match op with
 | .quo=>.ok (.sym (k.wrap (x.den.tdiv y.den)))
 | _=>.ok (.sym (x.den.tmod y.den))
def qs3 (op:BinOp) (k:IntKind) (x:SI) (b:Int):R SI :=
 match op with
 | .rem=>.need (0<=x.den) (.ok (.b32 (BitVec.ofInt 32 x.den)))
 | _=>qol op k x (.lit b)
def zjD (op:BinOp) (k:IntKind) (x:SI) (b:Int):R SI :=
 match op with
 | .rem=>Option.rec (motive:=fun _=>R SI) (qol op k x (.lit b)) (fun a=>.ok (.b8 (a.setWidth 8))) (qq3 x)
 | _=>qol op k x (.lit b)
def dvW (b:Int) (x:SI) (op:BinOp) (k:IntKind):R SI:=zab (eqI b 4294967296) (qs3 op k x b) (zab (eqI b 256) (zjD op k x b) (qol op k x (.lit b)))
def dvL (b:Int) (x:SI) (op:BinOp) (k:IntKind):R SI:=x.zba (dvW b x op k) fun a=>dvLL a b op k
def divS (op:BinOp) (k:IntKind) (x y:SI):R SI:=y.zba (.need (y.den≠0) (qol op k x y)) fun b=>zab (eqI b 0) (.stuck 103) (dvL b x op k)
def sh8 (a:BitVec 8) (n:Nat) (k:IntKind) (op:BinOp):R SI :=
 match k with
 | .u8=>match op with
   | .shl=>.ok (.b8 (a <<< n))
   | _=>.ok (.b8 (a >>> n))
 | _=>.stuck 105
def sh32 (a:BitVec 32) (n:Nat) (k:IntKind) (op:BinOp):R SI :=
 match k with
 | .u32=>match op with
   | .shl=>.ok (.b32 (a <<< n))
   | _=>.ok (.b32 (a >>> n))
 | .i64=>match op with
   | .shl=>.ok (.sym (IntKind.i64.wrap ((a.toNat:Int) * 2 ^ n)))
   | _=>.ok (.b32 (a >>> n))
 | _=>.stuck 105
def sh64 (a:BitVec 64) (n:Nat) (k:IntKind) (op:BinOp):R SI :=
 match k with
 | .u64=>match op with
   | .shl=>.ok (.b64 (a <<< n))
   | _=>.ok (.b64 (a >>> n))
 | _=>.stuck 105
def ziQ (a:Int) (n:Nat) (k:IntKind) (op:BinOp):R SI :=
 match op with
 | .shl=>.ok (.lit (qwj k (Int.mul a (Int.ofNat (2 ^ n)))))
 | _=>.ok (.lit (Int.fdiv a (Int.ofNat (2 ^ n))))
def ziP (a:Int) (n:Nat) (k:IntKind) (op:BinOp):R SI :=
 match op with
 | .shl=>.ok (.sym (k.wrap (a * 2 ^ n)))
 | _=>.ok (.sym (a.fdiv (2 ^ n)))
def shX (x:SI):Nat->IntKind->BinOp->R SI:=SI.rec (motive:=fun _=>Nat->IntKind->BinOp->R SI) ziQ ziP sh8 sh32 sh64 x
def qt3 (k:IntKind):Nat:=IntKind.rec (motive:=fun _=>Nat) 8 16 32 64 8 16 32 64 k
def shN (op:BinOp) (k:IntKind) (x:SI) (n:Nat):R SI:=zab (Nat.ble n (qt3 k)) (shX x n k op) (shX x (qt3 k) k op)
def qw6 (op:BinOp) (k:IntKind) (x y:SI):R SI :=
 .need (0<=y.den) (match op with
   | .shl=>.ok (.sym (k.wrap (x.den * 2 ^ (min y.den.toNat k.bits))))
   | _=>.ok (.sym (x.den.fdiv (2 ^ (min y.den.toNat k.bits)))))
def qx6 (op:BinOp) (k:IntKind) (x y:SI):R SI:=y.zba (qw6 op k x y) fun b=>zdO b (fun n=>shN op k x n) (fun _=>.stuck 104)
def jdd (x y:Int):Option Bool:=some (eqI x y)
def jed (x y:Int):Option Bool:=some (!(eqI x y))
def jfd (x y:Int):Option Bool:=some (ltI x y)
def jgd (x y:Int):Option Bool:=some (!(ltI y x))
def jhd (x y:Int):Option Bool:=some (ltI y x)
def jid (x y:Int):Option Bool:=some (!(ltI x y))
def qne (_x _y:Int):Option Bool:=none
def cmpL (op:BinOp):Int->Int->Option Bool :=
 BinOp.rec (motive:=fun _=>Int->Int->Option Bool) qne qne qne qne qne qne qne qne qne qne qne jdd jed jfd jgd jhd jid op
def zet (op:BinOp) (x y:Int):Option Bool :=
 match op with
 | .eql=>some (x == y)
 | .neq=>some (x != y)
 | .lss=>some (decide (x<y))
 | .leq=>some (decide (x<=y))
 | .gtr=>some (decide (x > y))
 | .geq=>some (decide (x>=y))
 | _=>none
def cmLL (a b:Int) (op:BinOp):R SB:=R.opt 106 (cmpL op a b) fun b=>.ok (.lit b)
def qu3 (op:BinOp) (x y:SI):R SB:=R.opt 106 (zet op x.den y.den) fun b=>.ok (.sym b)
def zgu (op:BinOp) (x y:SI):R SB:=x.zba (qu3 op x y) fun a=>y.zba (qu3 op x y) fun b=>cmLL a b op
def cv8 (a:BitVec 8) (k:IntKind):SI :=
 match k with
 | .u8=>.b8 a
 | .u32=>.b32 (a.setWidth 32)
 | .u64=>.b64 (a.setWidth 64)
 | .i64=>.sym (a.toNat:Int)
 | k=>.sym (k.wrap (a.toNat:Int))
def cv32 (a:BitVec 32) (k:IntKind):SI :=
 match k with
 | .u8=>.b8 (a.setWidth 8)
 | .u32=>.b32 a
 | .u64=>.b64 (a.setWidth 64)
 | .i64=>.sym (a.toNat:Int)
 | k=>.sym (k.wrap (a.toNat:Int))
def cv64 (a:BitVec 64) (k:IntKind):SI :=
 match k with
 | .u8=>.b8 (a.setWidth 8)
 | .u32=>.b32 (a.setWidth 32)
 | .u64=>.b64 a
 | k=>.sym (k.wrap (a.toNat:Int))
def cvL (n:Int) (k:IntKind):SI:=.lit (qwj k n)
def cvS (n:Int) (k:IntKind):SI :=
 match k with
 | .u8=>.b8 (BitVec.ofInt 8 n)
 | .u32=>.b32 (BitVec.ofInt 32 n)
 | .u64=>.b64 (BitVec.ofInt 64 n)
 | k=>.sym (k.wrap n)
def jjd (k:IntKind) (x:SI):SI:=SI.rec (motive:=fun _=>IntKind->SI) cvL cvS cv8 cv32 cv64 x k
def SI.toN (x:SI):SN:=SI.rec (motive:=fun _=>SN) (fun n=>.lit (zdO n (fun m=>m) (fun _=>0))) (fun n=>.sym n.toNat) (fun x=>.byt 0 x) (fun x=>.sym (x.toNat:Int).toNat) (fun x=>.sym (x.toNat:Int).toNat) x
def SN.toI (n:SN):SI:=SN.rec (motive:=fun _=>SI) (fun n=>.lit (Int.ofNat n)) (fun n=>.sym (n:Int)) (fun o x=>.sym ((o+x.toNat:Nat):Int)) n
def SN.add (x y:SN):SN:=SN.rec (motive:=fun _=>SN) (fun a=>SN.rec (motive:=fun _=>SN) (fun b=>.lit (Nat.add a b)) (fun b=>.sym (a+b)) (fun o b=>.byt (Nat.add a o) b) y) (fun a=>.sym (a+y.den)) (fun o a=>SN.rec (motive:=fun _=>SN) (fun b=>.byt (Nat.add o b) a) (fun b=>.sym (o+a.toNat+b)) (fun o' b=>.sym (o+a.toNat+(o'+b.toNat))) y) x
def SN.sub (x y:SN):SN:=SN.rec (motive:=fun _=>SN) (fun a=>SN.rec (motive:=fun _=>SN) (fun b=>.lit (Nat.sub a b)) (fun b=>.sym (a - b)) (fun o b=>.sym (a - (o+b.toNat))) y) (fun a=>.sym (a - y.den)) (fun o a=>.sym (o+a.toNat - y.den)) x
def SN.mul (x:SN) (b:Nat):SN:=SN.rec (motive:=fun _=>SN) (fun a=>.lit (Nat.mul a b)) (fun a=>.sym (a * b)) (fun o a=>zab (Nat.beq b 1) (.byt o a) (.sym ((o+a.toNat) * b))) x
def q2i {α:Type} (i:SI) (n:SN) (k:SN->R α):R α:=.need (0<=i.den/\i.den<(n.den:Int)) (k i.toN)
def qjt {α:Type} (x:BitVec 8) (n:SN) (k:SN->R α):R α:=n.zba (q2i (.b8 x) n k) fun m=>zab (Nat.ble 256 m) (k (.byt 0 x)) (q2i (.b8 x) n k)
def j7j {α:Type} (i:SI) (n:SN) (k:SN->R α):R α:=SI.rec (motive:=fun _=>R α) (fun _=>q2i i n k) (fun _=>q2i i n k) (fun x=>qjt x n k) (fun _=>q2i i n k) (fun _=>q2i i n k) i
def qy6 {α:Type} (a:Nat) (n:SN) (k:SN->R α):R α:=SN.rec (motive:=fun _=>R α) (fun n=>zab (Nat.blt a n) (k (.lit a)) (.stuck 107)) (fun n=>.need (a<n) (k (.lit a))) (fun o x=>.need (a<o+x.toNat) (k (.lit a))) n
def zeQ {α:Type} (i:SI) (n:SN) (k:SN->R α):R α:=i.zba (j7j i n k) fun a=>zdO a (fun a=>qy6 a n k) (fun _=>.stuck 107)
def qz6 {α:Type} (i:SI) (n:SN) (k:SN->R α):R α:=.need (0<=i.den/\i.den<=(n.den:Int)) (k i.toN)
def q06 {α:Type} (a:Nat) (n:SN) (k:SN->R α):R α:=SN.rec (motive:=fun _=>R α) (fun n=>zab (Nat.ble a n) (k (.lit a)) (.stuck 108)) (fun n=>.need (a<=n) (k (.lit a))) (fun o x=>.need (a<=o+x.toNat) (k (.lit a))) n
def bndS {α:Type} (i:SI) (n:SN) (k:SN->R α):R α:=i.zba (qz6 i n k) fun a=>zdO a (fun a=>q06 a n k) (fun _=>.stuck 108)
end
end
noncomputable section
noncomputable section
variable {α:Type}
def TypeDesc.zgy {β:Type} (d:TypeDesc) (e:β) (f:Nat->TypeId->β):β :=
 TypeDesc.rec (motive:=fun _=>β) e e (fun _=>e) (fun _=>e) (fun _=>e) e e (fun _=>e) (fun _=>e) (fun n t=>f n t) (fun _ _=>e) (fun _ _=>e) (fun _=>e) (fun _ _ _=>e) (fun _=>e) (fun _=>e) (fun _ _=>e) d
def TypeDesc.zgx {β:Type} (d:TypeDesc) (e:β) (f:TypeId->β):β :=
 TypeDesc.rec (motive:=fun _=>β) e e (fun _=>e) (fun _=>e) (fun _=>e) e e (fun _=>e) (fun t=>f t) (fun _ _=>e) (fun _ _=>e) (fun _ _=>e) (fun _=>e) (fun _ _ _=>e) (fun _=>e) (fun _=>e) (fun _ _=>e) d
def TypeDesc.asSt {β:Type} (d:TypeDesc) (e:β) (f:Array Field->β):β :=
 TypeDesc.rec (motive:=fun _=>β) e e (fun _=>e) (fun _=>e) (fun _=>e) e e (fun _=>e) (fun _=>e) (fun _ _=>e) (fun _ _=>e) (fun _ _=>e) (fun l=>f l) (fun _ _ _=>e) (fun _=>e) (fun _=>e) (fun _ _=>e) d
def qlc (d:TypeDesc):Bool :=
 TypeDesc.rec (motive:=fun _=>Bool) false false (fun _=>false) (fun _=>false) (fun _=>false) false false (fun _=>false) (fun _=>false) (fun _ _=>true) (fun _ _=>false) (fun _ _=>false) (fun _=>true) (fun _ _ _=>false) (fun _=>false) (fun _=>false) (fun _ _=>false) d
def zgH {β:Type} (z:List β) (n:Nat):List β:=Nat.rec (motive:=fun _=>List β) [] (fun _ ih=>app z ih) n
def skD (d:TypeDesc):SK :=
 match d with
 | .int k=>.i k
 | .bool=>.b
 | .string=>.s
 | _=>.v
def skFs (g:TypeId->Option (List SK)):List Field->Option (List SK)
 | []=>some []
 | f::r=>(g f.type).bind fun ks=>(skFs g r).map fun l=>app ks l
def skT (P:Program):Nat->TypeId->Option (List SK)
 | 0,_=>none
 | d+1,t=>(P.underlying t).bind fun
   | .array n e=>(skT P d e).map fun ks=>zgH ks n
   | .struct fs=>skFs (fun e=>skT P d e) fs.toList
   | d=>some [skD d]
def jkd (l:List SV):List SK->List SV:=List.rec (motive:=fun _=>List SK->List SV) (fun _=>[]) (fun v r ih ks=>List.rec (motive:=fun _=>List SV) (v::r) (fun k ks _=>v.zdo v (fun x=>zgb k x)::ih ks) ks) l
def qv3 (l:List SV):List SK->Prop:=List.rec (motive:=fun _=>List SK->Prop) (fun _=>True) (fun v _ ih ks=>List.rec (motive:=fun _=>Prop) True (fun k ks _=>v.zdo True (fun x=>zcK k x)/\ih ks) ks) l
def qdw (P:Program) (t:TypeId) (l:List SV) (f:List SV->R α):R α:=zah (skT P 8 t) (f l) fun ks=>.need (qv3 l ks) (f (jkd l ks))
def qw3 (k:SK) (x:Value) (f:SV->R α):R α:=SK.rec (motive:=fun _=>R α) (fun k=>.need (zcK (.i k) x) (f (zgb (.i k) x))) (.need (zcK .b x) (f (zgb .b x))) (.need (zcK .s x) (f (zgb .s x))) (f (.val x)) k
def qew (P:Program) (t:TypeId) (v:SV) (f:SV->R α):R α:=v.zdo (f v) fun x=>zah (P.underlying t) (f v) fun d=>qw3 (skD d) x f
def rawC (c:Cells):Bool:=Cells.rec (motive:=fun _=>Bool) (fun _=>false) (fun _ _=>false) (fun _ _=>true) c
def zh1 (o:Option SO):Bool:=zah o false fun o=>SO.rec (motive:=fun _=>Bool) (fun c _ _=>rawC c) (fun c=>rawC c) (fun _ _ _ _ _ _ _ _=>false) (fun _=>false) false (fun _=>false) (fun _=>false) o
def zdj (v:SV):Option Value :=
 SV.rec (motive_1:=fun _=>Option Value) (motive_2:=fun _=>Unit) (fun k n=>some (.int k n.den)) (fun b=>some (.bool b.den)) (fun s=>some (.string s.den)) (fun _=>none) (some (.pointer none)) (fun _ _ _=>none) (some (.slice none 0 0)) (fun _=>none) (some (.map none)) (fun _ _ _ _ _=>none) (some .nilFunc) (fun _ _ _=>none) (some .nilIface) (fun _ _=>none) (fun _ _=>none) (fun v=>some v) (fun _ _ _ _=>none) () (fun _ _ _ _=>()) v
def qtc (l:List SV):Option (List Value):=List.rec (motive:=fun _=>Option (List Value)) (some []) (fun v _ ih=>zah (zdj v) none fun x=>zah ih none fun xs=>some (x::xs)) l
def atV (l:List Value) (i:Nat):Value:=(l[i]?).getD undef
def qeh (V:Nat->Value) (o n:Nat) (Y:Nat->Value):Nat->Value:=fun j=>if o<=j/\j<o+n then Y (j - o) else V j
def zb5 (X:Nat->Value) (l:Nat) (Y:Nat->Value):Nat->Value:=fun j=>if j<l then X j else Y (j - l)
def zjQ (l:List SV) (i:Nat) (k:Nat) (f:List SV->R α):R α:=zab (Nat.ble (Nat.add i k) (zay l)) (f (qza (qwb l i) k)) (.stuck 200)
def rdFn (g:Nat->SV) (n:Nat) (i:SN) (k:Nat) (f:List SV->R α):R α:=.need (i.den+k<=n) (f (zar (fun j=>g (i.den+j)) (qsa k 0)))
def zjP (V:Nat->Value) (n:Nat) (i:SN) (k:Nat) (f:List SV->R α):R α:=.need (i.den+k<=n) (f (zar (fun j=>.val (V (i.den+j))) (qsa k 0)))
def q2o (c:Cells) (i:SN) (k:Nat) (f:List SV->R α):R α :=
 Cells.rec (motive:=fun _=>R α) (fun l=>i.zba (.stuck 201) fun i=>zjQ l i k f) (fun g n=>rdFn g n i k f) (fun V n=>zjP V n i k f) c
def zjR (g:Nat->SV) (n:Nat) (i:SN) (f:SV->R α):R α:=SN.rec (motive:=fun _=>R α) (fun i=>.need (i<n) (f (g i))) (fun i=>.need (i<n) (f (g i))) (fun o x=>.need (o+x.toNat<n) (f (g (o+x.toNat)))) i
def lit8 (n:Int):Option (BitVec 8):=zdO n (fun m=>zab (Nat.blt m 256) (some (BitVec.ofNat 8 m)) none) fun _=>none
def si8 (n:SI):Option (BitVec 8):=SI.rec (motive:=fun _=>Option (BitVec 8)) lit8 (fun _=>none) (fun x=>some x) (fun _=>none) (fun _=>none) n
def zcZ (v:SV):Option (BitVec 8):=v.asInt none fun k n=>zab (eqK k .u8) (si8 n) none
def unb (l:List SV):Option (List (BitVec 8)):=List.rec (motive:=fun _=>Option (List (BitVec 8))) (some []) (fun v _ ih=>zah (zcZ v) none fun x=>zah ih none fun xs=>some (x::xs)) l
def qmd (l:List (BitVec 8)) (i:Nat):BitVec 8:=(l[i]?).getD 0#8
def qfh (X:Nat->BitVec 8):Nat->SV:=fun i=>.int .u8 (.b8 (X i))
def qcn (v:SV):BitVec 8:=SV.asInt v 0#8 fun _ n=>SI.rec (motive:=fun _=>BitVec 8) (fun n=>BitVec.ofInt 8 n) (fun _=>0#8) (fun x=>x) (fun _=>0#8) (fun _=>0#8) n
def IsB (g:Nat->SV):Prop:=∀ i,∃ x,g i=.int .u8 (.b8 x)
def noB (l:List SV):Nat->List Nat:=List.rec (motive:=fun _=>Nat->List Nat) (fun _=>[]) (fun v _ ih i=>zah (zcZ v) (i::ih (Nat.succ i)) fun _=>ih (Nat.succ i)) l
def qmg (o n:Nat) (J:List Nat):Prop:=List.rec (motive:=fun _=>Prop) True (fun j _ ih=>(j<o\/o+n<=j)/\ih) J
def qfw (l:List SV) (i:Nat):BitVec 8:=zah (nth l i) 0#8 fun v=>zah (zcZ v) 0#8 fun x=>x
def zfA (o n:Nat) (Y:Nat->BitVec 8) (l:List SV):Nat->List SV:=List.rec (motive:=fun _=>Nat->List SV) (fun _=>[]) (fun v _ ih i=>zah (zcZ v) v (fun x=>.int .u8 (.b8 (if o<=i/\i<o+n then Y (i - o) else x)))::ih (Nat.succ i)) l
def qxj (c:Cells) (off n:Nat) (f:(Nat->BitVec 8)->R α):R α :=
 Cells.rec (motive:=fun _=>R α) (fun l=>zah (unb l) (.need (off+n<=zay l/\qmg off n (noB l 0)) (f fun i=>qfw l (off+i))) fun xs=>.need (off+n<=zay xs) (f fun i=>qmd xs (off+i))) (fun g m=>.need (off+n<=m/\IsB g) (f fun i=>qcn (g (off+i)))) (fun V m=>.need (off+n<=m/\∀ i,i<n->zcK (.i .u8) (V (off+i))) (f fun i=>BitVec.ofInt 8 (zfP (V (off+i))))) c
def zgT (X:Nat->BitVec 8) (l:Nat) (Y:Nat->BitVec 8):Nat->BitVec 8:=fun j=>if j<l then X j else Y (j - l)
def zjO (l:List SV) (i:Nat) (f:SV->R α):R α:=zah (unb l) (.stuck 203) fun xs=>.need (i<zay xs) (f (.int .u8 (.b8 (qmd xs i))))
def zjS (l:List SV) (o:Nat) (x:BitVec 8) (f:SV->R α):R α:=zah (unb l) (.stuck 203) fun xs=>zab (Nat.ble (o+256) (zay xs)) (f (.int .u8 (.b8 (qmd xs (o+x.toNat))))) (.need (o+x.toNat<zay xs) (f (.int .u8 (.b8 (qmd xs (o+x.toNat))))))
def qdr (c:Cells) (i:SN) (f:SV->R α):R α :=
 Cells.rec (motive:=fun _=>R α) (fun l=>SN.rec (motive:=fun _=>R α) (fun i=>R.opt 202 (nth l i) f) (fun i=>zjO l i f) (fun o x=>zjS l o x f) i) (fun g n=>zjR g n i f) (fun V n=>.need (i.den<n) (f (.val (V i.den)))) c
def ziz (l:List SV) (i:Nat) (v:List SV) (f:Cells->R α):R α:=zab (Nat.ble (Nat.add i (zay v)) (zay l)) (f (.lst (qvj l i v))) (.stuck 204)
def ziA (g:Nat->SV) (n:Nat) (i:SN) (v:List SV) (f:Cells->R α):R α :=
 match v with
 | [x]=>.need (i.den<n) (f (.fn (fun j=>if j=i.den then x else g j) n))
 | v=>.need (i.den+zay v<=n) (f (.fn (fun j=>if i.den<=j then (nth v (j - i.den)).getD (g j) else g j) n))
def zgK (o n:Nat) (Y:Nat->BitVec 8) (xs:List (BitVec 8)):Nat->List (BitVec 8):=List.rec (motive:=fun _=>Nat->List (BitVec 8)) (fun _=>[]) (fun x _ ih k=>(if o<=k/\k<o+n then Y (k - o) else x)::ih (Nat.succ k)) xs
def zh2 (c:Cells) (o n:Nat) (Y:Nat->BitVec 8) (f:Cells->R α):R α :=
 Cells.rec (motive:=fun _=>R α) (fun l=>zah (unb l) (.need (o+n<=zay l/\qmg o n (noB l 0)) (f (.lst (zfA o n Y l 0)))) fun xs=>.need (o+n<=zay xs) (f (.lst (zar (fun x=>.int .u8 (.b8 x)) (zgK o n Y xs 0)))))
  (fun g m=>.need (o+n<=m/\IsB g) (f (.fn (qfh (fun p=>if o<=p/\p<o+n then Y (p - o) else qcn (g p))) m)))
  (fun V m=>.need (o+n<=m) (f (.raw (qeh V o n fun p=>.int .u8 ((Y p).toNat:Int)) m))) c
def j8j (l:List SV) (i:Nat) (x:SV) (f:Cells->R α):R α:=zah (zcZ x) (.stuck 205) fun b=>zh2 (.lst l) i 1 (fun _=>b) f
def zix (l:List SV) (i:Nat) (v:List SV) (f:Cells->R α):R α:=List.rec (motive:=fun _=>R α) (.stuck 205) (fun x r _=>List.rec (motive:=fun _=>R α) (j8j l i x f) (fun _ _ _=>.stuck 205) r) v
def qx3 (z:SV):Nat->SV:=zah (zcZ z) (fun _=>z) fun x=>qfh fun _=>x
def ziy (V:Nat->Value) (n:Nat) (i:SN) (v:List SV) (f:Cells->R α):R α:=zah (qtc v) (.stuck 900) fun xs=>.need (i.den+zay xs<=n) (f (.raw (qeh V i.den (zay xs) (atV xs)) n))
def q3o (c:Cells) (i:SN) (v:List SV) (f:Cells->R α):R α :=
 Cells.rec (motive:=fun _=>R α) (fun l=>i.zba (zix l i.den v f) fun i=>ziz l i v f) (fun g n=>ziA g n i v f) (fun V n=>ziy V n i v f) c
def q4o (c:Cells) (off n:Nat) (f:(Nat->Value)->R α):R α :=
 Cells.rec (motive:=fun _=>R α) (fun l=>zah (qtc l) (.stuck 901) fun xs=>.need (off+n<=zay xs) (f fun i=>atV xs (off+i))) (fun g m=>.need (off+n<=m/\∀ i,i<n->∃ x,zdj (g (off+i))=some x) (f fun i=>zah (zdj (g (off+i))) undef fun x=>x)) (fun V m=>.need (off+n<=m) (f fun i=>V (off+i))) c
def putR (c:Cells) (o n:Nat) (Y:Nat->Value) (f:Cells->R α):R α :=
 Cells.rec (motive:=fun _=>R α) (fun l=>zah (qtc l) (.stuck 903) fun xs=>.need (o+n<=zay xs) (f (.raw (qeh (atV xs) o n Y) (zay xs)))) (fun g m=>.need (o+n<=m/\∀ i,i<m->∃ x,zdj (g i)=some x) (f (.raw (qeh (fun i=>zah (zdj (g i)) undef fun x=>x) o n Y) m))) (fun V m=>.need (o+n<=m) (f (.raw (qeh V o n Y) m))) c
inductive zai where
 | val (v:SV) (sets:List (Nat × SO)) (news:List SO)
 | enter (f:FuncId) (args:List SV)
 | round (nm:Nat) (args:List SV)
 | defer (d:SD)
 | panic (v:SV)
 | touch (v:SV) (nm:Nat)
def vR (v:SV):R zai:=.ok (.val v [] [])
def entry (H:List SO) (a:SA) (f:SO->R α):R α:=R.opt 206 (nth H a.nm) f
def rdNO (o:SO) (i:SN) (k:Nat) (f:List SV->R α):R α :=
 SO.rec (motive:=fun _=>R α) (fun c _ _=>q2o c i k f) (fun c=>q2o c i k f) (fun _ _ _ _ _ _ _ _=>.stuck 207) (fun _=>.stuck 207) (.stuck 207) (fun _=>.stuck 207) (fun _=>.stuck 207) o
def q5o (H:List SO) (a:SA) (k:Nat) (f:List SV->R α):R α:=entry H a fun o=>rdNO o a.off k f
def rd1O (o:SO) (i:SN) (f:SV->R α):R α :=
 SO.rec (motive:=fun _=>R α) (fun c _ _=>qdr c i f) (fun c=>qdr c i f) (fun _ _ _ _ _ _ _ _=>.stuck 208) (fun _=>.stuck 208) (.stuck 208) (fun _=>.stuck 208) (fun _=>.stuck 208) o
def qy3 (H:List SO) (a:SA) (f:SV->R α):R α:=entry H a fun o=>rd1O o a.off f
def zku (P:Program) (H:List SO) (t:TypeId) (a:SA) (f:SV->R α) (b:Bool):R α :=
 zab (zh1 (nth H a.nm))
  (zab b (R.opt 210 (P.info? t) fun i=>q5o H a i.size fun l=>qdw P t l fun l=>f (.agg l)) (qy3 H a fun v=>qew P t v f))
  (zab b (R.opt 210 (P.info? t) fun i=>q5o H a i.size fun l=>f (.agg l)) (qy3 H a f))
def qz3 (P:Program) (H:List SO) (t:TypeId) (a:SA) (f:SV->R α):R α :=
 R.opt 209 (P.underlying t) fun d=>zku P H t a f (qlc d)
def zaG (f:α->Bool) (l:List α):Bool:=List.rec (motive:=fun _=>Bool) true (fun a _ ih=>zab (f a) ih false) l
def wrO (o:SO) (a:SA) (l:List SV):R zai :=
 SO.rec (motive:=fun _=>R zai) (fun c w e=>List.rec (motive:=fun _=>R zai) (.ok (.touch qwa a.nm)) (fun _ _ _=>q3o c a.off l fun c=>.ok (.val qwa [(a.nm,.own c w e)] [])) l) (fun _=>.stuck 212) (fun _ _ _ _ _ _ _ _=>.stuck 212) (fun _=>.stuck 212) (.stuck 212) (fun _=>.stuck 212) (fun _=>.stuck 212) o
def q01 (v:SV):Bool:=v.zdo (qwh v) fun _=>true
def j9j (H:List SO) (a:SA) (l:List SV) (n:Nat):R zai :=
 zab (Nat.beq (zay l) n) (zab (zaG q01 l) (qqi l (entry H a fun o=>wrO o a l)) (.stuck 213)) (.stuck 214)
def jak (P:Program) (H:List SO) (t:TypeId) (a:SA) (v:SV):R zai :=
 R.opt 211 (P.info? t) fun i=>j9j H a (qlg v) i.size
def qdi (P:Program) (t:TypeId):Option (List SV):=((P.info? t).bind (·.zero)).map fun v=>zar qqk v.cells.toList
def qpl (place:Nat->Option (Nat × Nat)) (cells:List SV):List (Nat × SV)->Option (List SV)
 | []=>some cells
 | (i,v)::rest =>
   match place i with
   | none=>none
   | some (off,size)=>if zay (qlg v)≠size\/off+zay (qlg v) > zay cells then none else qpl place (qvj cells off (qlg v)) rest
def qgw (P:Program) (t:TypeId) (l:List SV) (off:Nat) (f:SV->R α):R α :=
 R.opt 215 (P.underlying t) fun d =>
  if qlc d then R.opt 216 (P.info? t) fun i=>f (.agg (qza (qwb l off) i.size))
  else R.opt 217 (nth l off) f
def qtk (P:Program):List Field->Option (List (Nat × Nat))
 | []=>some []
 | f::r=>(P.info? f.type).bind fun i=>(qtk P r).map fun l=>(f.offset,i.size)::l
def q16 (ev:Operand->SV) (ps:Array (Nat × Operand)):List (Nat × SV):=zar (fun p=>(p.1,ev p.2)) ps.toList
def jbk (P:Program) (t:TypeId) (parts:List (Nat × SV)):R zai :=
 qqi (zar (fun p=>p.2) parts) <| R.opt 218 (P.underlying t) fun
  | .struct fields =>
    R.opt 219 (qdi P t) fun zero=>R.opt 220 (qtk P fields.toList) fun places =>
     R.opt 221 (qpl (nth places) zero parts) fun cells=>vR (.agg cells)
  | .array _ elem =>
    R.opt 219 (qdi P t) fun zero=>R.opt 220 (P.info? elem) fun i =>
     R.opt 221 (qpl (fun j=>some (j * i.size,i.size)) zero parts) fun cells=>vR (.agg cells)
  | _=>.stuck 222
def qhw (z:List SV) (n:Nat):List SV:=Nat.rec (motive:=fun _=>List SV) [] (fun _ ih=>app z ih) n
def qv0 (P:Program) (base:Nat) (t:TypeId) (len:Nat) (parts:List (Nat × SV)):R zai :=
 qqi (zar (fun p=>p.2) parts) <| R.opt 223 (P.underlying t) fun
  | .slice elem=>R.opt 224 (P.info? elem) fun i=>R.opt 225 (qdi P elem) fun zero =>
    if len * i.size > 2 ^ 24 then .stuck 226 else
    if zay zero≠i.size then .stuck 227 else
    R.opt 228 (qpl (fun j=>some (j * i.size,i.size)) (qhw zero len) parts) fun cells =>
     .ok (.val (.slice ⟨base,.lit 0⟩ (.lit len) (.lit len)) [] [.own (.lst cells) true elem])
  | _=>.stuck 229
def q03 (P:Program) (base:Nat) (t:TypeId) (len cap:SV):R zai :=
 R.opt 230 (P.underlying t) fun
  | .slice elem=>R.opt 231 (P.info? elem) fun i=>R.opt 232 (qdi P elem) fun zero =>
    match len,cap with
    | .int .i64 (.lit l),.int .i64 (.lit c) =>
      if 0<=l/\l<=c/\c<1048577/\i.bytes<65537 then
       if zay zero≠i.size then .stuck 233 else
       .ok (.val (.slice ⟨base,.lit 0⟩ (.lit l.toNat) (.lit c.toNat)) [] [.own (.lst (qhw zero c.toNat)) true elem])
      else .stuck 234
    | .int .i64 l,.int .i64 c =>
      match zero with
      | [z]=>.need (0<=l.den/\l.den<=c.den/\c.den * i.bytes<=2 ^ 48/\c.den<=9223372036854775807/\i.size=1)
        (.ok (.val (.slice ⟨base,.lit 0⟩ l.toN (.sym c.den.toNat)) [] [.own (.fn (qx3 z) c.den.toNat) true elem]))
      | zs=>R.opt 235 (qtc zs) fun xs=>.need (0<=l.den/\l.den<=c.den/\c.den * i.bytes<=2 ^ 48/\c.den<=9223372036854775807/\i.size=zay xs/\0<i.size)
        (.ok (.val (.slice ⟨base,.lit 0⟩ l.toN (.sym c.den.toNat)) [] [.own (.raw (fun j=>atV xs (j % zay xs)) (c.den.toNat * zay xs)) true elem]))
    | _,_=>.stuck 236
  | _=>.stuck 237
def zgL (v:SV) (f:SA->R α):R α:=v.zeJ (.stuck 238) f
def SA.plus (a:SA) (n:SN):SA:=⟨a.nm,a.off.add n⟩
def zhg (e:SO) (n:Option Mem):Option Mem:=SO.rec (motive:=fun _=>Option Mem) (fun _ _ _=>n) (fun _=>n) (fun _ _ _ _ _ _ _ _=>n) (fun _=>n) n (fun _=>n) (fun m=>some m) e
def qei (H:List SO):Option Mem:=List.rec (motive:=fun _=>Option Mem) none (fun e _ ih=>zhg e ih) H
def qdn (e:SO) (i:Nat) (n:Option (Nat × Mem)):Option (Nat × Mem):=SO.rec (motive:=fun _=>Option (Nat × Mem)) (fun _ _ _=>n) (fun _=>n) (fun _ _ _ _ _ _ _ _=>n) (fun _=>n) n (fun _=>n) (fun m=>some (i,m)) e
def q13 (H:List SO):Option (Nat × Mem):=List.rec (motive:=fun _=>Nat->Option (Nat × Mem)) (fun _=>none) (fun e _ ih i=>qdn e i (ih (Nat.succ i))) H 0
def Mem.put (m:Mem) (b o n:Nat) (Y:Nat->Value):Mem:=⟨fun a=>if a.block=b/\a.spot=none/\o<=a.off/\a.off<o+n then some (Y (a.off - o)) else m.cell a,m.own,m.old⟩
def zaS (x:Value):Addr:=match x with | .pointer (some a)=>a | .slice (some a) _ _=>a | _=>⟨0,0,none⟩
def zaK (x:Value):Nat:=match x with | .slice _ l _=>l | _=>0
def zb7 (x:Value):Nat:=match x with | .slice _ _ c=>c | _=>0
def zeN (x:Value):Option Addr:=match x with | .slice a _ _=>a | _=>none
def zcH (x:Value):Prop:=x=.slice (zeN x) (zaK x) (zb7 x)
def q23 (x:Value):Prop:=x=.pointer (some (zaS x))
def qng (x:Value):Prop:=x=.slice (some (zaS x)) (zaK x) (zb7 x)
def zc2 (m:Mem) (a:Addr) (j:Nat):Value:=(m.cell (a.add j)).getD undef
def zjW (v:SV) (g:Value->R α) (f:SA->R α):R α:=v.zeJ (v.zdo (.stuck 238) g) f
def jck (P:Program) (m:Mem) (t:TypeId) (a:Addr) (f:SV->R α) (b:Bool):R α :=
 zab b (R.opt 210 (P.info? t) fun i=>.need (∀ j,j<i.size->(m.cell (a.add j)).isSome=true) (qdw P t (zar (fun j=>.val (zc2 m a j)) (qsa i.size 0)) fun l=>f (.agg l)))
  (.need ((m.cell a).isSome=true) (qew P t (.val ((m.cell a).getD undef)) f))
def q33 (P:Program) (H:List SO) (t:TypeId) (x:Value) (f:SV->R α):R α :=
 zah (qei H) (.stuck 950) fun m=>R.opt 209 (P.underlying t) fun d=>.need (q23 x) (jck P m t (zaS x) f (qlc d))
def q43 (P:Program) (s:TypeId) (x:SV) (field:Nat):R zai :=
 R.opt 239 (P.underlying s) fun d=>TypeDesc.asSt d (.stuck 243) fun fields =>
  R.opt 240 (nth fields.toList field) fun f=>R.opt 241 (P.info? f.type) fun i =>
   zab (Nat.beq i.size 0) (.stuck 242) (zjW x (fun v=>.need (q23 v) (vR (.val (.pointer (some ((zaS v).add f.offset)))))) fun a=>vR (.ptr (a.plus (.lit f.offset))))
def jld (P:Program) (x:SV) (i:SI) (n:Nat) (elem:TypeId):R zai:=zgL x fun a=>R.opt 245 (P.info? elem) fun e=>zeQ i (.lit n) fun j=>vR (.ptr (a.plus (j.mul e.size)))
def jdk (P:Program) (a:SA) (n len:SN) (i:SI) (elem:TypeId):R zai:=R.opt 246 (P.info? elem) fun e=>zeQ i len fun j=>vR (.ptr ((a.plus n).plus (j.mul e.size)))
def zkA (P:Program) (x:Value) (i:SI) (elem:TypeId):R zai:=R.opt 246 (P.info? elem) fun e=>.need (qng x) (zeQ i (.sym (zaK x)) fun j=>vR (.val (.pointer (some ((zaS x).add (j.mul e.size).den)))))
def jmd (P:Program) (x:SV) (i:SI) (elem:TypeId):R zai:=x.asSlice (x.zdo (.stuck 247) fun v=>zkA P v i elem) fun a len _=>R.opt 246 (P.info? elem) fun e=>zeQ i len fun j=>vR (.ptr (a.plus (j.mul e.size)))
def zkz (P:Program) (x:SV) (i:SI) (elem:TypeId):R zai :=
 match x with
 | .tail a n len _=>jdk P a n len i elem
 | x=>jmd P x i elem
def qer (P:Program) (t:TypeId) (x index:SV):R zai :=
 R.opt 244 (P.underlying t) fun d=>index.asInt (.stuck 248) fun _ i=>TypeDesc.zgy d (TypeDesc.zgx d (.stuck 247) (zkz P x i)) (jld P x i)
def q26 (P:Program) (t:TypeId) (x index:SV):R zai :=
 R.opt 249 (P.underlying t) fun d =>
  match index with
  | .int _ i =>
    match d,x with
    | .array n elem,.agg l=>R.opt 250 (P.info? elem) fun e=>zeQ i (.lit n) fun
      | .lit j=>qgw P elem l (j * e.size) fun v=>vR v
      | _=>.stuck 251
    | .string,.str s =>
      match s,i with
      | .lit s,.lit i=>if 0<=i then R.opt 252 (nth s.data.toList i.toNat) fun b=>vR (.int .u8 (.lit (b.toNat:Int))) else .stuck 253
      | .bytes l,.lit i=>if 0<=i then R.opt 252 (nth l i.toNat) fun
        | .b8 b=>vR (.int .u8 (.b8 b))
        | b=>.need (0<=b.den/\b.den<256) (vR (.int .u8 b))
       else .stuck 253
      | s,i=>.need (0<=i.den/\i.den<(s.den.size:Int)) (vR (.int .u8 (.b8 (s.den.data.getD i.den.toNat 0).toBitVec)))
    | _,_=>.stuck 254
  | _=>.stuck 255
def q1b (v:Option SV) (y:SN) (d:SN) (f:SN->R α):R α :=
 match v with
 | none=>f d
 | some (.int _ i)=>bndS i y f
 | some _=>.stuck 256
def qiw:SC->Option SN
 | .lit n=>some (.lit n)
 | .sym n=>some (.sym n)
 | .rest _ _=>none
def SN.toC:SN->SC
 | .lit n=>.lit n
 | .sym n=>.sym n
 | .byt o x=>.sym (o+x.toNat)
def SC.less:SC->SN->Option SC
 | .lit c,.lit n=>some (.lit (c - n))
 | .lit c,.sym n=>some (.sym (c - n))
 | .lit c,.byt o x=>some (.sym (c - (o+x.toNat)))
 | .sym c,n=>some (.sym (c - n.den))
 | .rest nm k,.lit n=>some (.rest nm (k+n))
 | .rest nm k,.sym n=>some (.rest nm (k+n))
 | .rest _ _,.byt _ _=>none
def mxOk (hi mx:Option SV):Bool:=zah mx true fun _=>zah hi false fun _=>true
def ziL (a:SA) (n h:SN) (c:SC) (same:Bool):R zai:=.fork same (vR (.slice a h c)) (vR (.slice (a.plus n) h c))
def jnd (n:Nat) (a:SA) (e:TypeInfo) (lo hi mx:Option SV):R zai :=
 q1b mx (.lit n) (.lit n) fun m=>q1b hi m (.lit n) fun h=>q1b lo h (.lit 0) fun l =>
  match m,l with
  | .lit m',.lit l'=>vR (.slice (if m'=l' then a else a.plus (.lit (l' * e.size))) (h.sub l) (.lit (m' - l')))
  | m,.lit 0=>vR (.slice a h m.toC)
  | m,l=>ziL a (l.mul e.size) (h.sub l) (.sym (m.den - l.den)) (decide (m.den=l.den))
def ziM (a:SA) (c:SN) (e:TypeInfo) (lo hi mx:Option SV):R zai :=
 q1b mx c c fun m=>q1b hi m m fun h=>q1b lo h (.lit 0) fun l =>
  match m,l with
  | .lit m',.lit l'=>vR (.slice (if m'=l' then a else a.plus (.lit (l' * e.size))) (h.sub l) (.lit (m' - l')))
  | m,.lit 0=>vR (.slice a h m.toC)
  | m,l=>ziL a (l.mul e.size) (h.sub l) (.sym (m.den - l.den)) (decide (m.den=l.den))
def sl3 (a:SA) (len:SN) (cap:SC) (e:TypeInfo) (lo hi mx:Option SV):R zai:=zah (qiw cap) (ziM a len e lo hi mx) fun c=>ziM a c e lo hi mx
def qbx (a:SA) (len:SN) (size:Nat) (h l:SN) (c':SC):R zai :=
 l.zba (vR (.tail a (l.mul size) (h.sub l) c')) fun x=>len.zba (vR (.tail a (l.mul size) (h.sub l) c')) fun y =>
  zab (Nat.blt x y) (vR (.slice (a.plus (l.mul size)) (h.sub l) c')) (vR (.tail a (l.mul size) (h.sub l) c'))
def ziK (a:SA) (len:SN) (size:Nat) (h l:SN) (c':SC):R zai:=(h.sub l).zba (qbx a len size h l c') fun d=>zab (Nat.blt 0 d) (vR (.slice (a.plus (l.mul size)) (h.sub l) c')) (qbx a len size h l c')
def sl2 (a:SA) (len:SN) (cap:SC) (e:TypeInfo) (lo hi:Option SV):R zai :=
 q1b hi len len fun h=>q1b lo h (.lit 0) fun l =>
  match l with
  | .lit 0=>vR (.slice a h cap)
  | l=>match cap,l with
    | .lit c,.lit l'=>vR (.slice (if c=l' then a else a.plus (.lit (l' * e.size))) (h.sub l) (.lit (c - l')))
    | cap,l=>R.opt 263 (cap.less l) fun c'=>ziK a len e.size h l c'
def q53 (s:zbg) (lo hi:Option SV):R zai :=
 match s with
 | .lit s=>q1b hi (.lit s.size) (.lit s.size) fun h=>q1b lo h (.lit 0) fun l =>
   match l,h with
   | .lit l,.lit h=>vR (.str (.lit (s.extract l h)))
   | l,h=>vR (.str (.sym (s.extract l.den h.den)))
 | .bytes b=>q1b hi (.lit (zay b)) (.lit (zay b)) fun h=>q1b lo h (.lit 0) fun l =>
   match l,h with
   | .lit l,.lit h=>vR (.str (.bytes (qza (qwb b l) (h - l))))
   | _,_=>.stuck 265
 | .sym s=>q1b hi (.sym s.size) (.sym s.size) fun h=>q1b lo h (.lit 0) fun l=>vR (.str (.sym (s.extract l.den h.den)))
def qen (A:Addr) (e:TypeInfo) (m h l:Nat):R zai:=vR (.val (.slice (some (if m=l then A else A.add (l * e.size))) (h - l) (m - l)))
def jod (A:Addr) (L C:Nat) (e:TypeInfo) (lo hi mx:Option SV):R zai :=
 zah mx (q1b hi (.sym L) (.sym L) fun h=>q1b lo h (.lit 0) fun l=>qen A e C h.den l.den) fun _=>q1b mx (.sym C) (.sym C) fun m=>q1b hi m m fun h=>q1b lo h (.lit 0) fun l=>qen A e m.den h.den l.den
def jek (P:Program) (t:TypeId) (x:SV) (lo hi mx:Option SV):R zai :=
 R.opt 257 (P.underlying t) fun d=>zab (mxOk hi mx)
  (match d,x with
  | .array n elem,.ptr a=>R.opt 258 (P.info? elem) fun e=>jnd n a e lo hi mx
  | .slice elem,.slice a len cap=>R.opt 260 (P.info? elem) fun e=>zah mx (sl2 a len cap e lo hi) fun _=>sl3 a len cap e lo hi mx
  | .slice elem,.tail a n len cap=>.need (0<len.den) (R.opt 260 (P.info? elem) fun e=>zah mx (sl2 (a.plus n) len cap e lo hi) fun _=>sl3 (a.plus n) len cap e lo hi mx)
  | .slice elem,.val y=>R.opt 260 (P.info? elem) fun e=>.need (qng y/\zaK y<=zb7 y) (jod (zaS y) (zaK y) (zb7 y) e lo hi mx)
  | .slice elem,.zac=>R.opt 260 (P.info? elem) fun _=>q1b mx (.lit 0) (.lit 0) fun m=>q1b hi m (.lit 0) fun h=>q1b lo h (.lit 0) fun _=>vR .zac
  | .string,.str s=>zah mx (q53 s lo hi) fun _=>.stuck 264
  | _,_=>.stuck 266)
  (.stuck 262)
def zhP:SV->Option SI
 | .int .u8 n=>some n
 | _=>none
def qql (l:List SV):Option (List SI):=List.rec (motive:=fun _=>Option (List SI)) (some []) (fun a _ ih=>match zhP a with | some n=>ih.map (n :: ·) | none=>none) l
def SV.num:SV->Int
 | .int _ n=>n.den
 | _=>0
def q6o (f:Nat->SV) (off len:Nat):ByteArray:=⟨((List.range len).map fun i=>UInt8.ofNat (f (off+i)).num.toNat).toArray⟩
def jfk:SV->Prop
 | .int .u8 _=>True
 | _=>False
def q7o (l:List SI):Option (List UInt8):=List.rec (motive:=fun _=>Option (List UInt8)) (some []) (fun a _ ih=>a.zba none fun n=>zah ih none fun r=>some (UInt8.ofNat n.toNat::r)) l
def qfn (l:List SI):zbg:=zah (q7o l) (.bytes l) fun b=>.lit ⟨b.toArray⟩
theorem qfr:∀ {l:List SI} {b:List UInt8},q7o l=some b->b=l.map fun i=>UInt8.ofNat i.den.toNat
 | [],b,h=>by cases h; rfl
 | a::l,b,h=>by
   have h:(a.zba none fun n=>zah (q7o l) none fun r=>some (UInt8.ofNat n.toNat::r))=some b:=h;cases a with
   | lit n =>
     have h:(zah (q7o l) none fun r=>some (UInt8.ofNat n.toNat::r))=some b:=h;cases hr:q7o l with
     | none=>rw [hr] at h; cases h
     | some r =>
       rw [hr] at h;cases h;rw [qfr hr]; rfl
   | _=>cases h
theorem qgr (l:List SI):(qfn l).den=qmc l:=by
 unfold qfn;cases h:q7o l with
 | none=>rfl
 | some b=>rw [qfr h]; rfl
def qhr (c:Cells) (off len:SN):R zai :=
 match c with
 | .lst l=>match off,len with
   | .lit o,.lit n =>
     if zay (qza (qwb l o) n)=n then R.opt 267 (qql (qza (qwb l o) n)) fun b=>vR (.str (qfn b)) else .stuck 268
   | off,len=>zah (unb l) (.stuck 269) fun xs=>.need (off.den+len.den<=zay xs) (vR (.str (.sym (q6o (qfh (qmd xs)) off.den len.den))))
 | .fn f n=>.need (off.den+len.den<=n/\∀ i,i<n->jfk (f i)) (vR (.str (.sym (q6o f off.den len.den))))
 | .raw _ _=>.stuck 905
def qcx (e:SO) (off len:SN):R zai :=
 match e with
 | .own c _ _=>qhr c off len
 | .row c=>qhr c off len
 | _=>.stuck 270
def qdx (H:List SO) (x:SV):R zai :=
 match x with
 | .zac=>vR (.str (.lit .empty))
 | .slice a len _=>entry H a fun e=>qcx e a.off len
 | .tail a n len _=>entry H a fun e=>qcx e (a.off.add n) len
 | _=>.stuck 271
def q8o (s:ByteArray):Nat->SV:=fun i=>.int .u8 (.b8 (s.data.getD i 0).toBitVec)
def q59 (base:Nat) (elem:TypeId) (s:zbg):R zai :=
 match s with
 | .lit s=>.ok (.val (.slice ⟨base,.lit 0⟩ (.lit s.size) (.rest base 0)) [] [.own (.lst (zar (fun (b:UInt8)=>.int .u8 (.lit (b.toNat:Int))) s.data.toList)) false elem])
 | .bytes l=>.need (∀ i∈l,0<=i.den/\i.den<256) (.ok (.val (.slice ⟨base,.lit 0⟩ (.lit (zay l)) (.rest base 0)) [] [.own (.lst (zar (fun i=>.int .u8 i) l)) false elem]))
 | .sym s=>.ok (.val (.slice ⟨base,.lit 0⟩ (.sym s.size) (.rest base 0)) [] [.own (.fn (q8o s) s.size) false elem])
def qex (P:Program) (base:Nat) (elem:TypeId) (s:zbg):R zai :=
 R.opt 279 (P.info? elem) fun i=>zab (Nat.beq i.size 1) (q59 base elem s) (.stuck 279)
def jpd (P:Program) (H:List SO) (src dst e:TypeId) (a:SA) (l:SN) (c:SC):R zai :=
 zab (Nat.beq src dst) (R.opt 826 (P.underlying e) fun
  | .int .u8=>entry H a fun
    | .own _ _ _=>.ok (.touch (.slice a l c) a.nm)
    | _=>.stuck 827
  | _=>.stuck 828) (.stuck 829)
def zle (P:Program) (H:List SO) (base:Nat) (src dst:TypeId) (x:SV):R zai :=
 R.opt 272 (P.underlying src) fun s=>R.opt 273 (P.underlying dst) fun d =>
  match s,d,x with
  | .int _,.int k,.int _ n=>vR (.int k (jjd k n))
  | .string,.string,.str s=>vR (.str s)
  | .string,.slice e,.str s=>R.opt 274 (P.underlying e) fun
    | .int .u8=>qex P base e s
    | _=>.stuck 275
  | .slice _,.slice e,.slice a l c=>jpd P H src dst e a l c
  | .slice e,.string,x=>R.opt 276 (P.underlying e) fun
    | .int .u8=>qdx H x
    | _=>.stuck 277
  | _,_,_=>.stuck 278
def q9o (s:ByteArray):List SI:=zar (fun (b:UInt8)=>.lit (b.toNat:Int)) s.data.toList
def qir (l m:List SI):R zai:=if zay l+zay m<=9223372036854775807 then vR (.str (qfn (app l m))) else .stuck 279
def jqd (op:BinOp) (a b:zbg):R zai :=
 match op with
 | .eql=>match a,b with
   | .lit a,.lit b=>vR (.bool (.lit (a.data.toList == b.data.toList)))
   | a,b=>vR (.bool (.sym (decide (a.den=b.den))))
 | .neq=>match a,b with
   | .lit a,.lit b=>vR (.bool (.lit (!(a.data.toList == b.data.toList))))
   | a,b=>vR (.bool (.sym (!decide (a.den=b.den))))
 | .lss=>match a,b with
   | .lit a,.lit b=>vR (.bool (.lit (Op.bytesLess a.data.toList b.data.toList)))
   | a,b=>vR (.bool (.sym (Op.bytesLess a.den.data.toList b.den.data.toList)))
 | .geq=>match a,b with
   | .lit a,.lit b=>vR (.bool (.lit (!Op.bytesLess a.data.toList b.data.toList)))
   | a,b=>vR (.bool (.sym (!Op.bytesLess a.den.data.toList b.den.data.toList)))
 | .leq=>match a,b with
   | .lit a,.lit b=>vR (.bool (.lit (Op.bytesLess a.data.toList b.data.toList || a.data.toList == b.data.toList)))
   | a,b=>vR (.bool (.sym (Op.bytesLess a.den.data.toList b.den.data.toList || decide (a.den=b.den))))
 | .gtr=>match a,b with
   | .lit a,.lit b=>vR (.bool (.lit (!(Op.bytesLess a.data.toList b.data.toList || a.data.toList == b.data.toList))))
   | a,b=>vR (.bool (.sym (!(Op.bytesLess a.den.data.toList b.den.data.toList || decide (a.den=b.den)))))
 | .add=>match a,b with
   | .lit a,.lit b=>if a.size+b.size<=9223372036854775807 then vR (.str (.lit (a++b))) else .stuck 279
   | .lit a,.bytes m=>qir (q9o a) m
   | .bytes l,.lit b=>qir l (q9o b)
   | .bytes l,.bytes m=>qir l m
   | a,b=>.need (a.den.size+b.den.size<=9223372036854775807) (vR (.str (.sym (a.den++b.den))))
 | _=>.stuck 280
def q63 (x y:SV):Option Bool :=
 match x,y with
 | .nilPtr,.nilPtr=>some true
 | .ptr _,.nilPtr | .nilPtr,.ptr _=>some false
 | .nilFunc,.nilFunc=>some true
 | .func _ _ _,.nilFunc | .nilFunc,.func _ _ _=>some false
 | .zac,.zac=>some true
 | .slice _ _ _,.zac | .zac,.slice _ _ _=>some false
 | .tail _ _ _ _,.zac | .zac,.tail _ _ _ _=>some false
 | .zaD,.zaD=>some true
 | .map _,.zaD | .zaD,.map _=>some false
 | _,_=>none
def qfu:TypeDesc->SV->SV->Bool
 | .pointer _,.nilPtr,.nilPtr | .pointer _,.ptr _,.nilPtr | .pointer _,.nilPtr,.ptr _=>true
 | .func _ _ _,.nilFunc,.nilFunc | .func _ _ _,.func _ _ _,.nilFunc | .func _ _ _,.nilFunc,.func _ _ _=>true
 | .slice _,.zac,.zac | .slice _,.slice _ _ _,.zac | .slice _,.zac,.slice _ _ _=>true
 | .slice _,.tail _ _ _ _,.zac | .slice _,.zac,.tail _ _ _ _=>true
 | .map _ _,.zaD,.zaD | .map _ _,.map _,.zaD | .map _ _,.zaD,.map _=>true
 | _,_,_=>false
def jgk:SV->SV->Option SB
 | .int _ (.lit a),.int _ (.lit b)=>some (.lit (a == b))
 | .int _ a,.int _ b=>some (.sym (a.den == b.den))
 | .bool (.lit a),.bool (.lit b)=>some (.lit (a == b))
 | .bool a,.bool b=>some (.sym (a.den == b.den))
 | .str (.lit a),.str (.lit b)=>some (.lit (a.data.toList == b.data.toList))
 | .str a,.str b=>some (.sym (decide (a.den=b.den)))
 | _,_=>none
inductive CK where
 | b | i | s
def q6f (g:TypeId->Option (List CK)):List Field->Nat->Option (List CK)
 | [],_=>some []
 | f::r,off=>(g f.type).bind fun ks=>if f.offset=off/\f.name ≠ "_" then (q6f g r (off+zay ks)).map fun l=>app ks l else none
def qjr (P:Program) (t:TypeId) (l:List CK):Option (List CK):=(P.info? t).bind fun i=>if i.size=zay l then some l else none
def qbc (P:Program):Nat->TypeId->Option (List CK)
 | 0,_=>none
 | d+1,t=>(P.underlying t).bind fun
   | .bool=>some [.b]
   | .int _=>some [.i]
   | .string=>some [.s]
   | .array n e=>(qbc P d e).bind fun ks=>(P.info? e).bind fun i=>if i.size=zay ks then qjr P t (zgH ks n) else none
   | .struct fs=>if P.stoodInHeld t then none else (q6f (fun e=>qbc P d e) fs.toList 0).bind fun l=>qjr P t l
   | _=>none
def eqSI (x y:SI):SB:=x.zba (.sym (x.den == y.den)) fun a=>y.zba (.sym (x.den == y.den)) fun b=>.lit (eqI a b)
def eqSB (x y:SB):SB:=SB.rec (motive:=fun _=>SB) (fun a=>SB.rec (motive:=fun _=>SB) (fun b=>.lit (a == b)) (fun b=>.sym (a == b)) y) (fun a=>.sym (a == y.den)) x
def eqSS (x y:zbg):SB :=
 match x,y with
 | .lit a,.lit b=>.lit (a.data.toList == b.data.toList)
 | a,b=>.sym (decide (a.den=b.den))
def zlx (x y:SB):SB:=SB.rec (motive:=fun _=>SB) (fun a=>zab a y (.lit false)) (fun a=>SB.rec (motive:=fun _=>SB) (fun b=>zab b (.sym a) (.lit false)) (fun b=>.sym (a && b)) y) x
def qgn (k:CK) (a b:SV):Option SB :=
 match k,a,b with
 | .i,.int k x,.int k' y=>zab (eqK k k') (some (eqSI x y)) none
 | .b,.bool x,.bool y=>some (eqSB x y)
 | .s,.str x,.str y=>some (eqSS x y)
 | _,_,_=>none
def qbe:List CK->List SV->List SV->Option SB
 | [],[],[]=>some (.lit true)
 | k::ks,a::az,b::bs=>(qgn k a b).bind fun x=>(qbe ks az bs).map fun y=>zlx x y
 | _,_,_=>none
def jrd (P:Program) (op:BinOp) (t:TypeId) (l m:List SV):R zai :=
 R.opt 829 (P.underlying t) fun d=>zab (qlc d) (R.opt 830 (qbc P 8 t) fun ks=>R.opt 831 (qbe ks l m) fun b=>match op with
  | .eql=>vR (.bool b)
  | .neq=>SB.rec (motive:=fun _=>R zai) (fun b=>vR (.bool (.lit (!b)))) (fun b=>vR (.bool (.sym (!b)))) b
  | _=>.stuck 832) (.stuck 833)
def zln (op:BinOp) (k:IntKind) (a:SI) (_k':IntKind) (b:SI):R zai:=(qx6 op k a b).bind fun n=>vR (.int k n)
def zlo (op:BinOp) (k:IntKind) (a:SI) (k':IntKind) (b:SI):R zai:=zab (eqK k k') ((divS op k a b).bind fun n=>vR (.int k n)) (.stuck 281)
def zf0 (op:BinOp) (k:IntKind) (a:SI) (k':IntKind) (b:SI):R zai:=zab (eqK k k') ((qsk op k a b).bind fun n=>vR (.int k n)) (.stuck 281)
def zgv (op:BinOp) (k:IntKind) (a:SI) (k':IntKind) (b:SI):R zai:=zab (eqK k k') ((zgu op a b).bind fun b=>vR (.bool b)) (.stuck 281)
def jsd (op:BinOp):IntKind->SI->IntKind->SI->R zai :=
 BinOp.rec (motive:=fun _=>IntKind->SI->IntKind->SI->R zai) (zf0 .add) (zf0 .sub) (zf0 .mul) (zlo .quo) (zlo .rem) (zf0 .and) (zf0 .or) (zf0 .xor) (zln .shl) (zln .shr) (zf0 .andNot) (zgv .eql) (zgv .neq) (zgv .lss) (zgv .leq) (zgv .gtr) (zgv .geq) op
def q36 (P:Program) (op:BinOp) (t:TypeId) (a b:SB):R zai :=
 R.opt 282 (P.underlying t) fun
  | .bool=>match op with
    | .eql=>match jgk (.bool a) (.bool b) with | some b=>vR (.bool b) | none=>.stuck 283
    | .neq=>match a,b with
      | .lit a,.lit b=>vR (.bool (.lit (!(a == b))))
      | a,b=>vR (.bool (.sym (!(a.den == b.den))))
    | _=>.stuck 284
  | _=>.stuck 285
def jtd (P:Program) (op:BinOp) (t:TypeId) (x y:SV):R zai :=
 R.opt 286 (P.underlying t) fun d =>
  match qfu d x y with
  | true=>R.opt 287 (q63 x y) fun b=>match op with
    | .eql=>vR (.bool (.lit b))
    | .neq=>vR (.bool (.lit (!b)))
    | _=>.stuck 288
  | false=>.stuck 289
def qkr (P:Program) (op:BinOp) (t:TypeId) (x y:SV):R zai :=
 match x,y with
 | .str a,.str b=>jqd op a b
 | .bool a,.bool b=>q36 P op t a b
 | .agg l,.agg m=>jrd P op t l m
 | x,y=>jtd P op t x y
def binT (P:Program) (op:BinOp) (t:TypeId) (x y:SV):R zai :=
 x.asInt (qkr P op t x y) fun k a=>y.asInt (qkr P op t x y) fun k' b=>jsd op k a k' b
def unT (op:UnOp) (x:SV):R zai :=
 match op,x with
 | .not,.bool (.lit b)=>vR (.bool (.lit (!b)))
 | .not,.bool b=>vR (.bool (.sym (!b.den)))
 | .neg,.int k n=>(qsk .sub k (.lit 0) n).bind fun n=>vR (.int k n)
 | .xor,.int .u8 n=>(qsk .xor .u8 (.lit 255) n).bind fun n=>vR (.int .u8 n)
 | .xor,.int .u32 n=>(qsk .xor .u32 (.lit 4294967295) n).bind fun n=>vR (.int .u32 n)
 | .xor,.int .u64 n=>(qsk .xor .u64 (.lit 18446744073709551615) n).bind fun n=>vR (.int .u64 n)
 | _,_=>.stuck 290
def qrl (H:List SO) (size:Nat) (x:SV) (n:SN) (f:List SV->R α):R α :=
 match x,n with
 | .zac,_=>f []
 | .slice a _ _,.lit n=>q5o H a (n * size) f
 | .tail a k _ _,.lit n=>q5o H (a.plus k) (n * size) f
 | .str (.lit s),.lit n=>zab (Nat.beq size 1) (f (zar (fun (b:UInt8)=>.int .u8 (.lit (b.toNat:Int))) (qza s.data.toList n))) (.stuck 291)
 | .str (.bytes l),.lit n=>zab (Nat.beq size 1) (.need (∀ i∈l,0<=i.den/\i.den<256) (f (zar (fun i=>.int .u8 i) (qza l n)))) (.stuck 291)
 | _,_=>.stuck 291
def zfW (x:SV) (f:SN->R α):R α :=
 match x with
 | .zac=>f (.lit 0)
 | .slice _ n _=>f n
 | .tail _ _ n _=>f n
 | .str (.lit s)=>f (.lit s.size)
 | .str (.bytes l)=>f (.lit (zay l))
 | .str (.sym s)=>f (.sym s.size)
 | .val y=>.need (zcH y) (f (.sym (zaK y)))
 | _=>.stuck 292
def zie (H:List SO) (a:SA) (n:SN) (f:(Nat->SV)->R α):R α :=
 entry H a fun
  | .own (.fn g m) _ _=>.need (a.off.den+n.den<=m) (f fun i=>g (a.off.den+i))
  | .row (.fn g m)=>.need (a.off.den+n.den<=m) (f fun i=>g (a.off.den+i))
  | .own (.lst l) _ _=>zah (unb l) (.need (a.off.den+n.den<=zay l) (f fun i=>(nth l (a.off.den+i)).getD qwa)) fun xs=>.need (a.off.den+n.den<=zay xs) (f (qfh fun i=>qmd xs (a.off.den+i)))
  | .row (.lst l)=>zah (unb l) (.need (a.off.den+n.den<=zay l) (f fun i=>(nth l (a.off.den+i)).getD qwa)) fun xs=>.need (a.off.den+n.den<=zay xs) (f (qfh fun i=>qmd xs (a.off.den+i)))
  | _=>.stuck 293
def zk1 (H:List SO) (x:SV) (f:(Nat->SV)->R α):R α :=
 match x with
 | .zac=>f fun _=>.int .u8 (.lit 0)
 | .slice a n _=>zie H a n f
 | .tail a k n _=>zie H (a.plus k) n f
 | .str s=>f (q8o s.den)
 | _=>.stuck 294
def qff (n bytes:Nat):Prop:=n * bytes<140737488355328/\n<140737488355328
def q4e (P:Program) (argTypes:Array TypeId):Bool :=
 match argTypes[1]? with
 | some xt=>match P.underlying xt with
   | some (.slice _)=>true
   | some .string=>true
   | _=>false
 | none=>true
def jud (base:Nat) (elem:TypeId) (n:Nat) (l:List SV):R zai:=.ok (.val (.slice ⟨base,.lit 0⟩ (.lit n) (.rest base 0)) [] [.own (.lst l) false elem])
def jvd (H:List SO) (base:Nat) (elem:TypeId) (size:Nat) (a:SA) (len c n:Nat) (new:List SV):R zai :=
 zab (Nat.ble (len+n) c)
  (zab (Nat.beq n 0) (vR (.slice a (.lit len) (.lit c)))
   (zab (zaG qwh new) (entry H a fun e=>match e with
    | .own cl w el=>q3o cl (a.off.add (.lit (len * size))) new fun cl=>.ok (.val (.slice a (.lit (len+n)) (.lit c)) [(a.nm,.own cl w el)] [])
    | _=>.stuck 299) (.stuck 300)))
  (q5o H a (len * size) fun old=>jud base elem (len+n) (app old new))
def q46 (H:List SO) (base:Nat) (elem:TypeId) (size:Nat) (a:SA) (len nm k n:Nat) (new:List SV):R zai :=
 zab (Nat.beq n 0) (vR (.slice a (.lit len) (.rest nm k)))
  (zab (zaG qwh new) (zab (Nat.beq a.nm nm) (zab (Nat.beq k 0) (a.off.zba (.stuck 303) fun o=>zab (Nat.beq o 0)
   (entry H a fun e=>match e with
    | .own (.lst l) _ el=>zab (Nat.beq el elem) (zab (Nat.ble (len * size) (zay l))
      (.ok (.val (.slice ⟨base,.lit 0⟩ (.lit (len+n)) (.rest base 0)) [(a.nm,.gone)] [.own (.lst (app (qza l (len * size)) new)) false elem])) (.stuck 303)) (.stuck 301)
    | _=>.stuck 302) (.stuck 303)) (.stuck 303)) (.stuck 303)) (.stuck 300))
def q11 (H:List SO) (base:Nat) (elem:TypeId) (size len n:Nat) (s:SV) (new:List SV):R zai :=
 match s with
 | .zac=>zab (Nat.beq n 0) (vR .zac) (jud base elem n new)
 | .slice a _ (.lit c)=>jvd H base elem size a len c n new
 | .slice a _ (.rest nm k)=>q46 H base elem size a len nm k n new
 | _=>.stuck 305
def apFn (base:Nat) (elem:TypeId) (size bytes:Nat) (n:SN) (s:SV) (g:Nat->SV):R zai :=
 match s with
 | .zac=>.fork (decide (n.den=0)) (.need (size=1) (vR .zac)) (.need (qff n.den bytes/\size=1) (.ok (.val (.slice ⟨base,.lit 0⟩ n (.rest base 0)) [] [.own (.fn g n.den) false elem])))
 | .slice a _ (.lit 0)=>.fork (decide (n.den=0)) (.need (size=1) (vR (.slice a (.lit 0) (.lit 0)))) (.need (qff n.den bytes/\size=1) (.ok (.val (.slice ⟨base,.lit 0⟩ n (.rest base 0)) [] [.own (.fn g n.den) false elem])))
 | _=>.stuck 307
def jwd (e:SO) (off n:Nat) (f:(Nat->BitVec 8)->R α):R α :=
 SO.rec (motive:=fun _=>R α) (fun c _ _=>qxj c off n f) (fun c=>qxj c off n f) (fun _ _ _ _ _ _ _ _=>.stuck 771) (fun _=>.stuck 771) (.stuck 771) (fun _=>.stuck 771) (fun _=>.stuck 771) e
def q3i (H:List SO) (x:SV) (n:SN) (f:(Nat->BitVec 8)->R α):R α :=
 match x with
 | .zac=>f fun _=>0#8
 | .slice a _ _=>entry H a fun e=>jwd e a.off.den n.den f
 | .tail a k _ _=>entry H a fun e=>jwd e (a.off.den+k.den) n.den f
 | .str s=>f fun i=>(s.den.data.getD i 0).toBitVec
 | _=>.stuck 772
def catR (base:Nat) (elem:TypeId) (sets:List (Nat × SO)) (len n:SN) (X Y:Nat->BitVec 8):R zai :=
 .ok (.val (.slice ⟨base,.lit 0⟩ (len.add n) (.rest base 0)) sets [.own (.fn (qfh (zgT X len.den Y)) (len.den+n.den)) false elem])
def qgu (H:List SO) (base:Nat) (elem:TypeId) (size bytes:Nat) (a:SA) (nm k:Nat) (len n:SN) (Y:Nat->BitVec 8):R zai :=
 zab (Nat.beq a.nm nm) (zab (Nat.beq k 0) (a.off.zba (.stuck 773) fun o=>zab (Nat.beq o 0) (entry H a fun e=>match e with
  | .own cl _ el=>zab (Nat.beq el elem) (qxj cl 0 len.den fun X=>.need (qff (len.den+n.den) bytes/\size=1) (catR base elem [(a.nm,.gone)] len n X Y)) (.stuck 773)
  | _=>.stuck 773) (.stuck 773)) (.stuck 773)) (.stuck 773)
def qgq (H:List SO) (base:Nat) (elem:TypeId) (size bytes:Nat) (s:SV) (c:SN) (len n:SN) (Y:Nat->BitVec 8):R zai :=
 q3i H s len fun X=>.need (c.den<len.den+n.den/\qff (len.den+n.den) bytes/\size=1) (catR base elem [] len n X Y)
def qjw (H:List SO) (base:Nat) (elem:TypeId) (size bytes:Nat) (a:SA) (l:SN) (c:SC) (len n:SN) (x:SV):R zai :=
 q3i H x n fun Y=>SC.rec (motive:=fun _=>R zai) (fun c'=>qgq H base elem size bytes (.slice a l (.lit c')) (.lit c') len n Y) (fun c'=>qgq H base elem size bytes (.slice a l (.sym c')) (.sym c') len n Y) (fun nm k=>qgu H base elem size bytes a nm k len n Y) c
def rawE (e:SO) (off n:Nat) (f:(Nat->Value)->R α):R α :=
 SO.rec (motive:=fun _=>R α) (fun c _ _=>q4o c off n f) (fun c=>q4o c off n f) (fun _ _ _ _ _ _ _ _=>.stuck 906) (fun _=>.stuck 906) (.stuck 906) (fun _=>.stuck 906) (fun _=>.stuck 906) e
def zgI (H:List SO) (x:SV) (n:Nat) (f:(Nat->Value)->R α):R α :=
 match x with
 | .zac=>f fun _=>undef
 | .slice a _ _=>entry H a fun e=>rawE e a.off.den n f
 | .tail a k _ _=>entry H a fun e=>rawE e (a.off.den+k.den) n f
 | .val y=>zah (qei H) (.stuck 907) fun m=>.need (zcH y/\(zeN y=none->zaK y=0)/\∀ j,j<n->(m.cell ((zaS y).add j)).isSome=true) (f (zc2 m (zaS y)))
 | _=>.stuck 907
def rawX (H:List SO) (x:SV):Bool :=
 match x with
 | .slice a _ _=>zh1 (nth H a.nm)
 | .tail a _ _ _=>zh1 (nth H a.nm)
 | .val _=>true
 | _=>false
def qlr (c:Cells) (off n:Nat) (f:(Nat->SV)->R α):R α :=
 Cells.rec (motive:=fun _=>R α) (fun l=>.need (off+n<=zay l) (f fun i=>(nth l (off+i)).getD qwa)) (fun g m=>.need (off+n<=m) (f fun i=>g (off+i))) (fun V m=>.need (off+n<=m) (f fun i=>.val (V (off+i)))) c
def mixE (e:SO) (off n:Nat) (f:(Nat->SV)->R α):R α :=
 SO.rec (motive:=fun _=>R α) (fun c _ _=>qlr c off n f) (fun c=>qlr c off n f) (fun _ _ _ _ _ _ _ _=>.stuck 906) (fun _=>.stuck 906) (.stuck 906) (fun _=>.stuck 906) (fun _=>.stuck 906) e
def zkh (H:List SO) (x:SV) (n:Nat) (f:(Nat->SV)->R α):R α :=
 match x with
 | .slice a _ _=>entry H a fun e=>mixE e a.off.den n f
 | .val y=>zah (qei H) (.stuck 907) fun m=>.need (zcH y/\(zeN y=none->zaK y=0)/\∀ j,j<n->(m.cell ((zaS y).add j)).isSome=true) (f fun j=>.val (zc2 m (zaS y) j))
 | _=>.stuck 907
def zeR (X:Nat->SV) (l:Nat) (Y:Nat->SV):Nat->SV:=fun j=>if j<l then X j else Y (j - l)
def zfm (v:SV):Prop:=v.zdo (qwh v=true) fun x=>x.oneCell'=true
def zkZ (l:List SV):Bool:=List.rec (motive:=fun _=>Bool) false (fun v _ ih=>v.asSlice (v.zeJ ih fun _=>true) fun _ _ _=>true) l
def zkk (o:Option SO):Bool:=zah o false fun e=>match e with | .own (.lst l) _ _=>zkZ l | _=>false
def fnO (o:Option SO):Bool:=zah o false fun e=>match e with | .own (.fn _ _) _ _=>true | _=>false
def mixX (H:List SO) (a:SA) (x:SV):Bool:=zah (qei H) false fun _=>zab (fnO (nth H a.nm)) true (x.asSlice false fun b _ _=>zkk (nth H b.nm))
def qhu (H:List SO) (base:Nat) (elem:TypeId) (size bytes:Nat) (a:SA) (nm k:Nat) (len n:SN) (x:SV):R zai :=
 zkh H x (n.den * size) fun Y=>zab (Nat.beq a.nm nm) (zab (Nat.beq k 0) (a.off.zba (.stuck 908) fun o=>zab (Nat.beq o 0) (entry H a fun e=>match e with
  | .own cl _ el=>zab (Nat.beq el elem) (qlr cl 0 (len.den * size) fun X=>.need (qff (len.den+n.den) bytes/\∀ i,i<n.den * size->zfm (Y i))
    (.ok (.val (.slice ⟨base,.lit 0⟩ (len.add n) (.rest base 0)) [(a.nm,.gone)] [.own (.fn (zeR X (len.den * size) Y) ((len.den+n.den) * size)) false elem]))) (.stuck 908)
  | _=>.stuck 908) (.stuck 908)) (.stuck 908)) (.stuck 908)
def zin (base:Nat) (elem:TypeId) (size:Nat) (sets:List (Nat × SO)) (len n:SN) (X Y:Nat->Value):R zai :=
 .ok (.val (.slice ⟨base,.lit 0⟩ (len.add n) (.rest base 0)) sets [.own (.raw (zb5 X (len.den * size) Y) ((len.den+n.den) * size)) false elem])
def qiu (H:List SO) (base:Nat) (elem:TypeId) (size bytes:Nat) (a:SA) (nm k:Nat) (len n:SN) (Y:Nat->Value):R zai :=
 zab (Nat.beq a.nm nm) (zab (Nat.beq k 0) (a.off.zba (.stuck 908) fun o=>zab (Nat.beq o 0) (entry H a fun e=>match e with
  | .own cl _ el=>zab (Nat.beq el elem) (q4o cl 0 (len.den * size) fun X=>.need (qff (len.den+n.den) bytes/\∀ i,i<n.den * size->(Y i).oneCell'=true) (zin base elem size [(a.nm,.gone)] len n X Y)) (.stuck 908)
  | _=>.stuck 908) (.stuck 908)) (.stuck 908)) (.stuck 908)
def qhq (H:List SO) (base:Nat) (elem:TypeId) (size bytes:Nat) (a:SA) (l:SN) (sc:SC) (c:Nat) (len n:SN) (Y:Nat->Value):R zai :=
 .fork (decide (len.den+n.den<=c))
  (entry H a fun e=>match e with
   | .own cl w el=>putR cl (a.off.den+len.den * size) (n.den * size) Y fun cl=>.need (∀ i,i<n.den * size->(Y i).oneCell'=true) (.ok (.val (.slice a (len.add n) sc) [(a.nm,.own cl w el)] []))
   | _=>.stuck 909)
  (zgI H (.slice a l sc) (len.den * size) fun X=>.need (qff (len.den+n.den) bytes) (zin base elem size [] len n X Y))
def q56 (H:List SO) (base:Nat) (elem:TypeId) (size bytes:Nat) (a:SA) (l:SN) (len n:SN) (Y:Nat->Value):R zai :=
 .fork (decide (len.den+n.den<=0)) (vR (.slice a (.lit 0) (.lit 0)))
  (zgI H (.slice a l (.lit 0)) (len.den * size) fun X=>.need (qff (len.den+n.den) bytes) (zin base elem size [] len n X Y))
def qkt (H:List SO) (elem:TypeId) (size:Nat) (y:Value) (n:SN) (Y:Nat->Value):R zai :=
 zah (q13 H) (.stuck 911) fun p=>.need ((∃ k cap,p.2.own (zaS y).block=some (k,cap,elem)/\zb7 y<=cap)/\zaS y=⟨(zaS y).block,0,none⟩/\∀ i,i<n.den * size->(Y i).oneCell'=true)
  (.ok (.val (.val (.slice (some (zaS y)) (zaK y+n.den) (zb7 y))) [(p.1,.mem (p.2.put (zaS y).block (zaK y * size) (n.den * size) Y))] []))
def qsl (H:List SO) (base:Nat) (elem:TypeId) (size bytes:Nat) (len n:SN) (s x:SV):R zai :=
 zgI H x (n.den * size) fun Y=>match s with
  | .zac=>.fork (decide (n.den=0)) (vR .zac) (.need (qff n.den bytes) (.ok (.val (.slice ⟨base,.lit 0⟩ n (.rest base 0)) [] [.own (.raw Y (n.den * size)) false elem])))
  | .slice a _ (.rest nm k)=>qiu H base elem size bytes a nm k len n Y
  | .slice a l (.lit c)=>zab (Nat.beq c 0) (q56 H base elem size bytes a l len n Y) (qhq H base elem size bytes a l (.lit c) c len n Y)
  | .slice a l (.sym c)=>qhq H base elem size bytes a l (.sym c) c len n Y
  | .val y=>.need (qng y) (.fork (decide (len.den+n.den<=zb7 y)) (qkt H elem size y n Y) (zgI H (.val y) (len.den * size) fun X=>.need (qff (len.den+n.den) bytes) (zin base elem size [] len n X Y)))
  | _=>.stuck 910
def jxd (H:List SO) (base:Nat) (elem:TypeId) (size bytes:Nat) (isb:Bool) (len n:SN) (s x:SV):R zai :=
 match s with
 | .slice a l (.lit (c+1))=>zab isb (qjw H base elem size bytes a l (.lit (c+1)) len n x) (qsl H base elem size bytes len n (.slice a l (.lit (c+1))) x)
 | .slice a l (.sym c)=>zab isb (zab (rawX H (.slice a l (.sym c))) (qsl H base elem size bytes len n (.slice a l (.sym c)) x) (qjw H base elem size bytes a l (.sym c) len n x)) (qsl H base elem size bytes len n (.slice a l (.sym c)) x)
 | .slice a l (.rest nm k)=>zab isb (qjw H base elem size bytes a l (.rest nm k) len n x) (zab (mixX H a x) (qhu H base elem size bytes a nm k len n x) (qsl H base elem size bytes len n (.slice a l (.rest nm k)) x))
 | .val y=>qsl H base elem size bytes len n (.val y) x
 | s=>zab (rawX H x) (qsl H base elem size bytes len n s x) (zk1 H x fun g=>apFn base elem size bytes n s g)
def zia (z:List SV):Bool:=match z with | [.int .u8 (.lit 0)]=>true | _=>false
def qri (P:Program) (H:List SO) (base:Nat) (argTypes:Array TypeId) (s x:SV):R zai :=
 R.opt 295 argTypes[0]? fun st=>R.opt 296 (P.underlying st) fun d=>TypeDesc.zgx d (.stuck 308) fun elem =>
  R.opt 297 (P.info? elem) fun e=>zab (q4e P argTypes)
   (R.opt 297 (qdi P elem) fun z=>zab (Nat.beq (zay z) e.size)
    (zfW x fun n=>zfW s fun len =>
     match len,n with
     | .lit len,.lit n=>zab (Nat.blt ((len+n) * e.bytes) 140737488355328) (zab (Nat.blt (len+n) 140737488355328)
       (qrl H e.size x (.lit n) fun new=>q11 H base elem e.size len n s new) (.stuck 306)) (.stuck 306)
     | len,n=>jxd H base elem e.size e.bytes (zia z) len n s x)
    (.stuck 298))
   (.stuck 298)
def qce (n:Nat):ByteArray:=⟨Array.replicate n 0⟩
def qfx (P:Program) (t:TypeId):Bool:=zah (P.underlying t) false fun d=>match d with | .int _=>true | _=>false
def q21 (P:Program) (H:List SO) (base:Nat) (st:TypeId) (bytes:Nat) (s:SV) (len:SN) (n:SI):R zai :=
 n.zba (.need (0<=n.den/\qff (len.den+n.den.toNat) bytes) (qri P H base #[st] s (.str (.sym (qce n.den.toNat))))) fun m=>zdO m
  (fun m=>len.zba (.need (qff (len.den+m) bytes) (qri P H base #[st] s (.str (.lit (qce m))))) fun l=>zab (Nat.blt ((l+m) * bytes) 140737488355328) (zab (Nat.blt (l+m) 140737488355328) (qri P H base #[st] s (.str (.lit (qce m)))) (.stuck 824)) (.stuck 824))
  (fun _=>.stuck 824)
def jaf (P:Program) (H:List SO) (base:Nat) (argTypes:Array TypeId) (s x:SV):R zai :=
 R.opt 820 argTypes[0]? fun st=>R.opt 820 argTypes[1]? fun tn=>zab (qfx P tn)
  (R.opt 821 (P.underlying st) fun d=>TypeDesc.zgx d (.stuck 821) fun elem=>R.opt 821 (P.info? elem) fun e=>R.opt 821 (qdi P elem) fun z=>zab (zia z) (zab (Nat.beq e.size 1)
   (zfW s fun len=>x.asInt (.stuck 822) fun _ n=>q21 P H base st e.bytes s len n) (.stuck 823)) (.stuck 823)) (.stuck 825)
def q31 (P:Program) (H:List SO) (base:Nat) (argTypes:Array TypeId) (s x:SV):R zai:=zab (q4e P argTypes) (qri P H base argTypes s x) (jaf P H base argTypes s x)
def qmr (H:List SO) (d x:SV) (m:SN) (g:R zai->R zai):R zai :=
 match d with
 | .slice a _ _=>q3i H x m fun Y=>g (entry H a fun e=>match e with
   | .own cl w el=>zh2 cl a.off.den m.den Y fun cl=>.ok (.val (.int .i64 m.toI) [(a.nm,.own cl w el)] [])
   | _=>.stuck 315)
 | _=>.stuck 315
def jhk (H:List SO) (d:SV):Bool :=
 match d with
 | .slice a _ _=>zah (nth H a.nm) false fun e=>match e with | .own (.lst l) _ _=>zah (unb l) true fun _=>false | _=>false
 | _=>false
def q73 (H:List SO) (d x:SV) (len n:SN):R zai :=
 zab (jhk H d) (.fork (decide (n.den<=len.den)) (qmr H d x n fun r=>r) (qmr H d x len fun r=>r)) (qmr H d x n fun r=>.need (n.den<=len.den) r)
def jyd (P:Program) (H:List SO) (argTypes:Array TypeId) (d x:SV):R zai :=
 R.opt 309 argTypes[0]? fun dt=>R.opt 310 (P.underlying dt) fun
  | .slice elem=>R.opt 311 (P.info? elem) fun e =>
    zfW x fun n=>zfW d fun len =>
     match len,n with
     | .lit len',.lit n' =>
       let m:=Nat.min n' len'
       qrl H e.size x (.lit m) fun new =>
        match d with
        | .zac=>vR (.int .i64 (.lit (m:Int)))
        | .slice a _ _ =>
          match m with
          | 0=>vR (.int .i64 (.lit 0))
          | _=>match zaG qwh new with
            | true=>entry H a fun
              | .own cl w el=>q3o cl a.off new fun cl=>.ok (.val (.int .i64 (.lit (m:Int))) [(a.nm,.own cl w el)] [])
              | _=>.stuck 312
            | false=>.stuck 313
        | _=>.stuck 314
     | len,n=>zab (Nat.beq e.size 1) (q73 H d x len n) (.stuck 315)
  | _=>.stuck 316
def zdN (P:Program) (argTypes:Array TypeId) (x:SV):R zai :=
 R.opt 317 argTypes[0]? fun t=>R.opt 318 (P.underlying t) fun d =>
  match d,x with
  | .string,.str s=>zfW (.str s) fun n=>vR (.int .i64 n.toI)
  | .array n _,_=>vR (.int .i64 (.lit (n:Int)))
  | .slice _,.slice _ n _=>vR (.int .i64 n.toI)
  | .slice _,.tail _ _ n _=>vR (.int .i64 n.toI)
  | .slice _,.val x=>.need (zcH x) (vR (.int .i64 (.sym (zaK x:Int))))
  | .slice _,.zac=>vR (.int .i64 (.lit 0))
  | .map _ _,.zaD=>vR (.int .i64 (.lit 0))
  | _,_=>.stuck 319
abbrev OpF:=Program->(Operand->SV)->List SO->Nat->R zai
def zbM (n:Nat) (l:List Nat):Bool:=List.rec (motive:=fun _=>Bool) false (fun a _ ih=>zab (Nat.beq a n) true ih) l
def qoe (v:SV):List SV:=v.asAgg [v] fun l=>l
def zhi (H:List SO) (v:SV) (nil:R α) (f:Nat->List (SV × SV × Nat)->Nat->R α):R α :=
 match v with
 | .zaD=>nil
 | .map nm=>match nth H nm with
   | some (.obj (.map es c))=>f nm es c
   | _=>.stuck 850
 | _=>.stuck 851
def zgi (H:List SO) (v:SV) (nil:R α) (f:Nat->List (SV × SV × Nat)->Nat->R α) (g:Nat->MSh->MSh->List MapEntry->Nat->R α):R α :=
 match v with
 | .zaD=>nil
 | .map nm=>match nth H nm with
   | some (.obj (.map es c))=>f nm es c
   | some (.obj (.za6 ks vs es c))=>g nm ks vs es c
   | _=>.stuck 850
 | _=>.stuck 851
def zft (k:SK) (v:SV):Bool :=
 match k,v with
 | .i .u8,.int .u8 n=>zah (si8 n) false fun _=>true
 | .i .u32,.int .u32 (.b32 _)=>true
 | .i .u64,.int .u64 (.b64 _)=>true
 | .i .i64,.int .i64 _=>true
 | .b,.bool _=>true
 | .s,.str _=>true
 | _,_=>false
def qyj:List SK->List SV->Bool
 | [],[]=>true
 | k::ks,v::l=>zab (zft k v) (qyj ks l) false
 | _,_=>false
def qtl (s:MSh) (v:SV):Option Value :=
 zab s.agg (v.asAgg none fun l=>zab (qyj s.cells l) ((qtc l).map fun xs=>.agg xs.toArray) none) (match s.cells with | [k]=>zab (zft k v) (zdj v) none | _=>none)
def zkw (ks:List SK) (v:SV):Option Value:=match ks with | [.v]=>zdj v | _=>none
def zh9 (s:MSh) (v:SV):Option Value:=zah (qtl s v) (zab s.agg none (zkw s.cells v)) some
def q1c (K:Value) (e:MapEntry):Bool:=@decide (e.key=K) (Classical.propDecidable _)
def zjX (es:List MapEntry) (K:Value):Option Nat:=es.findIdx? (q1c K)
def zaT (es:List MapEntry) (K:Value):Bool:=es.any (q1c K)
def zbF (es:List MapEntry) (K:Value):Value:=((es.find? (q1c K)).map (·.val)).getD undef
def zea (es:List MapEntry) (K V:Value):List MapEntry:=zah (zjX es K) es fun i=>zah (es[i]?) es fun e=>es.set i ⟨K,V,e.born⟩
def zcS (es:List MapEntry) (c:Nat) (K V:Value):List MapEntry:=es++[⟨K,V,c⟩]
def zdY (es:List MapEntry) (K:Value):List MapEntry:=es.eraseP (q1c K)
def zf2 (v:SV):Bool:=v.asAgg false fun _=>true
def qul (ks:List CK) (k v:SV):Option SB:=zab (zf2 k == zf2 v) (qbe ks (qoe k) (qoe v)) none
def qzj (ks:List CK) (k:SV) (yes:Nat->SV × SV × Nat->R α) (no:R α) (es:List (SV × SV × Nat)):Nat->R α :=
 List.rec (motive:=fun _=>Nat->R α) (fun _=>no) (fun e _ ih i=>zah (qul ks k e.1) (.stuck 852) fun b=>SB.rec (motive:=fun _=>R α) (fun b=>zab b (yes i e) (ih (Nat.succ i))) (fun b=>.fork b (yes i e) (ih (Nat.succ i))) b) es
def qkw (P:Program) (t:TypeId):Option SV:=((P.info? t).bind (·.zero)).map q9q
def zhk (P:Program) (t:TypeId) (k:SV) (f:TypeId->List CK->R α):R α :=
 R.opt 853 (P.underlying t) fun
  | .map kt et=>R.opt 854 (P.underlying kt) fun d=>R.opt 855 (qbc P 8 kt) fun ks=>R.opt 856 (qul ks k k) fun _=>zab (qlc d == zf2 k) (f et ks) (.stuck 857)
  | _=>.stuck 858
def qiq (t:TypeId) (r:Option Operand):OpF:=fun P ev _ base=>match r with
 | none=>.ok (.val (.map base) [] [.obj (.map [] 0)])
 | some h=>match ev h with
   | .int _ _=>R.opt 859 (P.underlying t) fun
     | .map _ _=>.ok (.val (.map base) [] [.obj (.map [] 0)])
     | _=>.stuck 860
   | _=>.stuck 861
def okT (ok:Bool) (v:SV) (b:Bool):SV:=zab ok (.tuple [v,.bool (.lit b)]) v
def q41 (t:TypeId) (x k:Operand) (ok:Bool):OpF:=fun P ev H _ =>
 zhk P t (ev k) fun et ks=>R.opt 862 (qkw P et) fun z=>zgi H (ev x) (vR (okT ok z false)) (fun _ es _=>qzj ks (ev k) (fun _ e=>vR (okT ok e.2.1 true)) (vR (okT ok z false)) es 0)
  fun _ kS vS es _=>R.opt 920 (qtl kS (ev k)) fun K=>.fork (zaT es K) (vR (okT ok (vS.see (zbF es K)) true)) (vR (okT ok z false))
def zjV (nm:Nat) (kS vS:MSh) (es:List MapEntry) (c:Nat):R zai:=.ok (.val qwa [(nm,.obj (.za6 kS vS es c))] [])
def zgJ (nm:Nat) (es:List (SV × SV × Nat)) (c:Nat):R zai:=.ok (.val qwa [(nm,.obj (.map es c))] [])
def qog (t:TypeId) (m k x:Operand):OpF:=fun P ev H _ =>
 zhk P t (ev k) fun _ ks=>zgi H (ev m) (.stuck 863) (fun nm es c=>qzj ks (ev k) (fun i e=>zgJ nm (zbz es i (ev k,ev x,e.2.2)) c) (zgJ nm (app es [(ev k,ev x,c)]) (Nat.succ c)) es 0)
  fun nm kS vS es c=>R.opt 920 (qtl kS (ev k)) fun K=>zah (zh9 vS (ev x)) (.ok (.val qwa [(nm,.gone)] [])) fun V=>.fork (zaT es K) (zjV nm kS vS (zea es K V) c) (zjV nm kS vS (zcS es c K V) (c+1))
def qju (t:TypeId) (m k:Operand):OpF:=fun P ev H _ =>
 zhk P t (ev k) fun et ks=>R.opt 862 (qkw P et) fun z=>zhi H (ev m) (.stuck 863) fun nm es c =>
  qzj ks (ev k) (fun i e=>.ok (.val (.tuple [e.2.1,.int .i64 (.lit (Int.ofNat e.2.2))]) [(nm,.obj (.map (zbz es i (ev k,e.2.1,e.2.2)) c))] []))
   (.ok (.val (.tuple [z,.int .i64 (.lit (Int.ofNat c))]) [(nm,.obj (.map (app es [(ev k,z,c)]) (Nat.succ c)))] [])) es 0
def qjq (b:Nat) (yes:Nat->SV × SV × Nat->R α) (es:List (SV × SV × Nat)):Nat->R α :=
 List.rec (motive:=fun _=>Nat->R α) (fun _=>.stuck 864) (fun e _ ih i=>zab (Nat.beq e.2.2 b) (yes i e) (ih (Nat.succ i))) es
def qxp (_t:TypeId) (m s x:Operand):OpF:=fun _ ev H _ =>
 zhi H (ev m) (.stuck 865) fun nm es c=>match ev s with
  | .int _ (.lit (.ofNat b))=>qjq b (fun i e=>zgJ nm (zbz es i (e.1,ev x,e.2.2)) c) es 0
  | _=>.stuck 866
def q66 {β:Type} (l:List β):Nat->List β :=
 List.rec (motive:=fun _=>Nat->List β) (fun _=>[]) (fun a t ih n=>Nat.rec (motive:=fun _=>List β) t (fun m _=>a::ih m) n) l
def q51 (P:Program) (H:List SO) (argTypes:Array TypeId) (m k:SV):R zai :=
 R.opt 867 argTypes[0]? fun t=>zhk P t k fun _ ks=>zgi H m (vR (.tuple [])) (fun nm es c=>qzj ks k (fun i _=>zgJ nm (q66 es i) c) (zgJ nm es c) es 0)
  fun nm kS vS es c=>R.opt 920 (qtl kS k) fun K=>zjV nm kS vS (zdY es K) c
def q76 (P:Program) (H:List SO) (argTypes:Array TypeId) (m:SV):R zai :=
 R.opt 868 argTypes[0]? fun t=>R.opt 869 (P.underlying t) fun
  | .map _ _=>zhi H m (vR (.tuple [])) fun nm _ c=>zgJ nm [] c
  | _=>.stuck 870
def zkv (P:Program) (H:List SO) (argTypes:Array TypeId) (x:SV):R zai :=
 match x with
 | .map nm=>R.opt 871 argTypes[0]? fun t=>R.opt 872 (P.underlying t) fun
   | .map _ _=>zgi H (.map nm) (.stuck 873) (fun _ es _=>vR (.int .i64 (.lit (Int.ofNat (zay es))))) fun _ _ _ es _=>vR (.int .i64 (.sym (Int.ofNat es.length)))
   | _=>.stuck 874
 | x=>zdN P argTypes x
def zhf (base:Nat) (o:za7):R zai:=.ok (.val (.ptr ⟨base,.lit 0⟩) [] [.obj o])
def q86 (t:TypeId) (x:Operand):OpF:=fun P ev H base =>
 R.opt 875 (P.underlying t) fun
  | .string=>match ev x with
    | .str s=>zhf base (.str s 0)
    | _=>.stuck 876
  | .map _ _=>zgi H (ev x) (zhf base (.iter none 0 [] 0)) (fun nm _ c=>zhf base (.iter (some nm) c [] c)) fun nm _ _ _ c=>zhf base (.iter (some nm) c [] c)
  | _=>.stuck 877
def q1g {β:Type} (f:β->Bool) (l:List β):List β:=List.rec (motive:=fun _=>List β) [] (fun a _ ih=>zab (f a) (a::ih) ih) l
def qfi (es:List (SV × SV × Nat)) (seen:List Nat):List (SV × SV × Nat):=q1g (fun e=>zab (zbM e.2.2 seen) false true) es
def zgN (l:List (SV × SV × Nat)) (since:Nat):List (SV × SV × Nat):=q1g (fun e=>Nat.blt e.2.2 since) l
def zkd (l:List (SV × SV × Nat)) (since:Nat):List (SV × SV × Nat):=q1g (fun e=>Nat.ble since e.2.2) l
def zgh {β:Type} (l:List β):Bool:=List.rec (motive:=fun _=>Bool) true (fun _ _ _=>false) l
def qlw (l:List (SV × SV × Nat)) (since:Nat):List (Option (SV × SV × Nat)) :=
 app (zab (zgh (zgN l since)) [none] []) (zar (fun e=>some e) (app (zgN l since) (zkd l since)))
def q83 (f:Option (SV × SV × Nat)->R zai) (l:List (Option (SV × SV × Nat))):Nat->Nat->R zai :=
 List.rec (motive:=fun _=>Nat->Nat->R zai) (fun _ _=>.stuck 878) (fun a r ih n i=>List.rec (motive:=fun _=>R zai) (f a) (fun _ _ _=>.fork (decide (n=i)) (f a) (ih n (Nat.succ i))) r) l
def oneM (f:Option (SV × SV × Nat)->R zai) (l:List (Option (SV × SV × Nat))):R zai :=
 List.rec (motive:=fun _=>R zai) (.stuck 879) (fun a r _=>List.rec (motive:=fun _=>R zai) (f a) (fun _ _ _=>.any fun z=>q83 f l (z 0) 0) r) l
def zef:R zai:=vR (.tuple [.bool (.lit false)])
def q93 (es:List (SV × SV × Nat)) (seen:List Nat) (last:Nat):Bool :=
 zab (zgh seen) false (zab (zgh es) false (zaG (fun e=>Nat.ble last e.2.2) es))
def q3a (es:List MapEntry) (seen:List Nat):List MapEntry:=es.filter fun e => !seen.contains e.born
def q6d (l:List MapEntry) (n:Nat):MapEntry:=(l[n % l.length]?).getD ⟨undef,undef,0⟩
def qa4 (es:List MapEntry) (seen:List Nat) (last:Nat):Prop:=seen≠[]/\es≠[]/\∀ e∈es,last<=e.born
def zkc (it m since:Nat) (seen:List Nat) (last:Nat) (kS vS:MSh) (es:List MapEntry) (c:Nat):R zai :=
 .need (¬ qa4 es seen last/\∀ e∈es,e.born<since) (.fork (q3a es seen).isEmpty zef (.any fun z =>
  .ok (.val (.tuple [.bool (.lit true),kS.see (q6d (q3a es seen) (z 0)).key,vS.see (q6d (q3a es seen) (z 0)).val]) [(it,.obj (.iter (some m) since (app seen [(q6d (q3a es seen) (z 0)).born]) c))] [])))
def qb4 (H:List SO) (it m since:Nat) (seen:List Nat) (last:Nat):R zai :=
 match nth H m with
 | some (.obj (.za6 kS vS es c))=>zkc it m since seen last kS vS es c
 | some (.obj (.map es c))=>zab (q93 es seen last) (.stuck 880) (oneM (fun o=>zah o zef fun e =>
   .ok (.val (.tuple [.bool (.lit true),e.1,e.2.1]) [(it,.obj (.iter (some m) since (app seen [e.2.2]) c))] [])) (qlw (qfi es seen) since))
 | _=>.stuck 881
def qc4 (it:Nat) (s:zbg) (pos:Nat):R zai :=
 match s with
 | .lit b=>zab (Nat.blt pos b.size) (.ok (.val (.tuple [.bool (.lit true),.int .i64 (.lit (Int.ofNat pos)),.int .i32 (.lit (Utf8.decode b pos).1)]) [(it,.obj (.str s (pos+(Utf8.decode b pos).2)))] [])) zef
 | s=>.fork (decide (pos<s.den.size)) (.ok (.val (.tuple [.bool (.lit true),.int .i64 (.sym (Int.ofNat pos)),.int .i32 (.sym (Utf8.decode s.den pos).1)]) [(it,.obj (.str s (pos+(Utf8.decode s.den pos).2)))] [])) zef
def jzd (x:Operand) (isString:Bool):OpF:=fun _ ev H _ =>
 zgL (ev x) fun a=>a.off.zba (.stuck 882) fun o=>zab (Nat.beq o 0) (match nth H a.nm with
  | some (.obj (.iter none _ _ _))=>zab isString (.stuck 883) zef
  | some (.obj (.iter (some m) since seen last))=>zab isString (.stuck 883) (qb4 H a.nm m since seen last)
  | some (.obj (.str s pos))=>zab isString (qc4 a.nm s pos) (.stuck 883)
  | _=>.stuck 884) (.stuck 885)
def qd4 (l:List Nat):Option Nat:=List.rec (motive:=fun _=>Option Nat) none (fun a r ih=>List.rec (motive:=fun _=>Option Nat) (some a) (fun _ _ _=>ih) r) l
def qe4 (s:Nat) (f:SV × SV × Nat->R α) (es:List (SV × SV × Nat)):R α:=List.rec (motive:=fun _=>R α) (.stuck 888) (fun e _ ih=>zab (Nat.beq e.2.2 s) (f e) ih) es
def q1e (seen:List Nat):Nat:=(seen.getLast?).getD 0
def zeA (es:List MapEntry) (s:Nat):MapEntry:=(es.find? fun e=>e.born == s).getD ⟨undef,undef,0⟩
def jik (kS vS:MSh) (es:List MapEntry) (c:Nat) (seen:List Nat) (stepped:Nat):R zai :=
 .need (c=stepped/\seen≠[]/\∃ e∈es,e.born=q1e seen) (vR (.tuple [kS.see (zeA es (q1e seen)).key,vS.see (zeA es (q1e seen)).val]))
def q96 (H:List SO) (m:Nat) (seen:List Nat) (stepped:Nat):R zai :=
 match nth H m with
 | some (.obj (.za6 kS vS es c))=>jik kS vS es c seen stepped
 | some (.obj (.map es c))=>zab (Nat.beq c stepped) (zah (qd4 seen) (.stuck 887) fun s=>qe4 s (fun e=>vR (.tuple [e.1,e.2.1])) es) (.stuck 889)
 | _=>.stuck 890
def qa7 (x:Operand):OpF:=fun _ ev H _ =>
 zgL (ev x) fun a=>a.off.zba (.stuck 886) fun o=>zab (Nat.beq o 0) (match nth H a.nm with
  | some (.obj (.iter (some m) _ seen stepped))=>q96 H m seen stepped
  | _=>.stuck 891) (.stuck 885)
def min2 (x y:SV):R SV :=
 match x,y with
 | .int k (.lit a),.int _ (.lit b)=>.ok (.int k (.lit (if b<a then b else a)))
 | .int k a,.int _ b=>.fork (decide (b.den<a.den)) (.ok (.int k b)) (.ok (.int k a))
 | _,_=>.stuck 320
def max2 (x y:SV):R SV :=
 match x,y with
 | .int k (.lit a),.int _ (.lit b)=>.ok (.int k (.lit (if a<b then b else a)))
 | .int k a,.int _ b=>.ok (.int k (.sym (if a.den<b.den then b.den else a.den)))
 | _,_=>.stuck 321
def qkq (P:Program) (H:List SO) (base:Nat) (b:Builtin) (argTypes:Array TypeId) (args:List SV):R zai :=
 match b,args with
 | .len,x::_=>zkv P H argTypes x
 | .delete,[m,k]=>q51 P H argTypes m k
 | .clear,[m]=>q76 P H argTypes m
 | .append,[s,x]=>q31 P H base argTypes s x
 | .copy,[d,x]=>jyd P H argTypes d x
 | .min,[x,y]=>(min2 x y).bind fun v=>vR v
 | .max,[x,y]=>(max2 x y).bind fun v=>vR v
 | _,_=>.stuck 322
def jjk (g:Fn) (first args captured:List SV):R zai :=
 Fn.rec (motive:=fun _=>R zai) (fun g=>.ok (.enter g (app first (app args captured)))) (fun _=>.stuck 323) (fun _ _=>.stuck 323) (fun _ _ _ _=>.stuck 323) (fun _=>.stuck 323) g
def q0j (f:SV) (args:List SV):R zai :=
 f.zeC (.stuck 324) fun fn first captured=>SFn.rec (motive:=fun _=>R zai) (fun g=>jjk g first args captured) (fun nm=>.ok (.round nm (app first args))) fn
def zg0 (P:Program) (path:List FieldStep) (g:FuncId) (args:List SV):R zai :=
 match path,args with
 | [s],.agg l::rest=>match s.deref with
   | true=>.stuck 842
   | false=>R.opt 343 (P.underlying s.struct) fun
     | .struct fields=>R.opt 344 (nth fields.toList s.index) fun f=>R.opt 345 (P.underlying f.type) fun
       | .pointer _=>qgw P f.type l f.offset fun v=>.ok (.enter g (v::rest))
       | _=>.stuck 846
     | _=>.stuck 847
 | _,_=>.stuck 848
def qlt (P:Program) (t:TypeId) (name:String) (args:List SV):R zai :=
 R.opt 349 (P.underlying t) fun
  | .struct _=>R.opt 350 (P.info? t) fun i=>R.opt 351 (i.methods.find? (·.name == name)) fun m=>match m.func with
    | some (g,true)=>zg0 P m.path.toList g args
    | _=>.stuck 852
  | _=>.stuck 853
def qf4 (P:Program) (f:SV) (args:List SV):R zai :=
 match f with
 | .func (.fn (.via _ path g true)) first _=>zg0 P path.toList g (app first args)
 | .func (.fn (.methodOf t name)) first _=>qlt P t name (app first args)
 | f=>q0j f args
def zk5 (t:Nat) (_glob:Nat->Option Nat) (T:List SV):SV:=zah (nth T t) qwa fun v=>v
def jbf (v:Value) (_glob:Nat->Option Nat) (_T:List SV):SV:=q9q v
def qpg (g:Nat) (glob:Nat->Option Nat) (_T:List SV):SV :=
 match glob g with
 | some nm=>.ptr ⟨nm,.lit 0⟩
 | none=>.val (.pointer (some ⟨g,0,none⟩))
def jkk (f:FuncId) (_glob:Nat->Option Nat) (_T:List SV):SV:=.func (.fn (.func f)) [] []
def evO (x:Operand):(Nat->Option Nat)->List SV->SV:=Operand.rec (motive:=fun _=>(Nat->Option Nat)->List SV->SV) zk5 jbf qpg jkk x
def evS (glob:Nat->Option Nat) (T:List SV) (x:Operand):SV:=evO x glob T
def nilFn (g:SFn) (x:SV):R zai:=SFn.rec (motive:=fun _=>R zai) (fun g=>Fn.rec (motive:=fun _=>R zai) (fun _=>vR x) (fun _=>.stuck 325) (fun _ _=>vR x) (fun _ _ _ _=>vR x) (fun _=>vR x) g) (fun _=>vR x) g
def jcf (x:SV):R zai :=
 match x with
 | .slice a l c=>vR (.slice a l c)
 | .tail a n l c=>vR (.tail a n l c)
 | .func g xs ys=>nilFn g (.func g xs ys)
 | _=>.stuck 325
def qku (x:SV):R zai:=x.zeJ (jcf x) fun a=>vR (.ptr a)
def qmw (x:Operand):OpF:=fun _ ev _ _=>vR (ev x)
def qg4 (c a b:Operand):OpF:=fun _ ev _ _ =>
 match ev c with
 | .bool (.lit true)=>vR (ev a)
 | .bool (.lit false)=>vR (ev b)
 | .bool (.sym c)=>.fork c (vR (ev a)) (vR (ev b))
 | _=>.stuck 326
def qb7 (elem:TypeId):OpF:=fun P _ _ base=>R.opt 327 (qdi P elem) fun z=>.ok (.val (.ptr ⟨base,.lit 0⟩) [] [.own (.lst z) true elem])
def oBox (elem:TypeId) (x:Operand):OpF:=fun _ ev _ base=>qqi [ev x] (.ok (.val (.ptr ⟨base,.lit 0⟩) [] [.own (.lst (qlg (ev x))) true elem]))
def qc7 (t:TypeId) (parts:Array (Nat × Operand)):OpF:=fun P ev _ _=>jbk P t (q16 ev parts)
def qyp (t:TypeId) (len:Nat) (parts:Array (Nat × Operand)):OpF:=fun P ev _ base=>qv0 P base t len (q16 ev parts)
def j0d (t:TypeId) (a:Operand):OpF:=fun P ev H _=>zjW (ev a) (fun x=>q33 P H t x vR) fun a=>qz3 P H t a vR
def qd7 (t:TypeId) (a x:Operand):OpF:=fun P ev H _=>zgL (ev a) fun a=>jak P H t a (ev x)
def zj2 (x:Operand):OpF:=fun _ ev _ _=>qku (ev x)
def zj4 (op:BinOp) (t:TypeId) (x y:Operand) (_yt:TypeId):OpF:=fun P ev _ _=>binT P op t (ev x) (ev y)
def oUn (op:UnOp) (_t:TypeId) (x:Operand):OpF:=fun _ ev _ _=>unT op (ev x)
def j1d (src dst:TypeId) (x:Operand):OpF:=fun P ev H base=>zle P H base src dst (ev x)
def oArr (arr:TypeId) (x:Operand):OpF:=fun P ev _ _ =>
 R.opt 328 (P.underlying arr) fun
  | .array n _=>match ev x with
    | .slice a len _=>match len with
      | .lit l=>match Nat.blt l n with
        | true=>.stuck 329
        | false=>vR (.ptr a)
      | .sym l=>.need (n<=l) (vR (.ptr a))
      | .byt o x=>.need (n<=o+x.toNat) (vR (.ptr a))
    | _=>.stuck 330
  | _=>.stuck 331
def qe7 (t:TypeId) (x:Operand):OpF:=fun P ev _ _ =>
 R.opt 332 (P.underlying t) fun
  | .interface _=>.stuck 333
  | _=>vR (.iface t (ev x))
def qh4 (fn:Fn) (first captured:Array Operand):OpF:=fun _ ev _ _ =>
 match fn with
 | .func f=>vR (.func (.fn (.func f)) (zar ev first.toList) (zar ev captured.toList))
 | .via t path f p=>vR (.func (.fn (.via t path f p)) (zar ev first.toList) (zar ev captured.toList))
 | .methodOf t name=>vR (.func (.fn (.methodOf t name)) (zar ev first.toList) (zar ev captured.toList))
 | _=>.stuck 334
def qnr (t:TypeId) (l c:Operand):OpF:=fun P ev _ base=>q03 P base t (ev l) (ev c)
def qgx (t:TypeId) (x:Operand) (lo hi mx:Option Operand):OpF:=fun P ev _ _=>jek P t (ev x) (lo.map ev) (hi.map ev) (mx.map ev)
def qor (s:TypeId) (x:Operand) (f:Nat):OpF:=fun P ev _ _=>q43 P s (ev x) f
def qhx (t:TypeId) (x:Operand) (f:Nat):OpF:=fun P ev _ _ =>
 match ev x with
 | .agg l=>R.opt 335 (P.underlying t) fun
   | .struct fields=>R.opt 336 (nth fields.toList f) fun f=>qgw P f.type l f.offset vR
   | _=>.stuck 337
 | _=>.stuck 338
def qvl (t:TypeId) (x i:Operand):OpF:=fun P ev _ _=>qer P t (ev x) (ev i)
def qix (t:TypeId) (x i:Operand):OpF:=fun P ev _ _=>q26 P t (ev x) (ev i)
def qlq (t:Operand) (i:Nat):OpF:=fun _ ev _ _ =>
 match ev t with
 | .tuple l=>R.opt 339 (nth l i) vR
 | _=>.stuck 340
def qf7 (f:Operand) (c:Call):OpF:=fun P ev _ _=>qf4 P (ev f) (zar ev c.args.toList)
def qg7 (b:Builtin) (c:Call):OpF:=fun P ev H base=>qkq P H base b c.argTypes (zar ev c.args.toList)
def jlk (_r:Operand) (_m:String) (_c:Call):OpF:=fun _ _ _ _=>.stuck 341
def jmk (c:Callee):Call->OpF:=Callee.rec (motive:=fun _=>Call->OpF) qf7 jlk qg7 c
def zj3 (c:Call):OpF:=jmk c.callee c
def oNo:OpF:=fun _ _ _ _=>.stuck 342
def qhn (c:Call):OpF:=fun _ ev _ _ =>
 match c.callee with
 | .value f=>(ev f).zeC (.stuck 342) fun fn first captured=>.ok (.defer (.call fn (app first (zar ev c.args.toList)) captured))
 | _=>.stuck 342
def qjx (x:Operand):OpF:=fun _ ev _ _ =>
 match ev x with
 | .iface t v=>.ok (.panic (.iface t v))
 | _=>.stuck 342
def opD (o:Op):OpF :=
 Op.rec (motive:=fun _=>OpF)
  (fun x=>qmw x) (fun x=>qmw x) (fun c a b=>qg4 c a b) (fun e=>qb7 e) (fun e x=>oBox e x) (fun t ps=>qc7 t ps) (fun t n ps=>qyp t n ps)
  (fun t m k x=>qog t m k x) (fun t a=>j0d t a) (fun t a x=>qd7 t a x) (fun _=>oNo) (fun _=>oNo) (fun x=>zj2 x)
  (fun op t x y yt=>zj4 op t x y yt) (fun op t x=>oUn op t x) (fun s d x=>j1d s d x) (fun t x=>oArr t x) (fun t x=>qe7 t x)
  (fun fn xs ys=>qh4 fn xs ys) (fun t r=>qiq t r) (fun _ _=>oNo) (fun t l c=>qnr t l c) (fun t x lo hi mx=>qgx t x lo hi mx)
  (fun s x f=>qor s x f) (fun t x f=>qhx t x f) (fun t x i=>qvl t x i) (fun t x i=>qix t x i)
  (fun t x k ok=>q41 t x k ok) (fun t m k x=>qog t m k x) (fun t m k=>qju t m k) (fun t m st x=>qxp t m st x) (fun t x=>q86 t x) (fun x b=>jzd x b) (fun x=>qa7 x) (fun _ _ _ _=>oNo)
  (fun t i=>qlq t i) (fun c=>zj3 c) (fun _=>oNo) (fun c=>qhn c) (fun x=>qjx x) (fun _ _=>oNo) (fun _ _ _=>oNo) (fun _ _=>oNo) o
def opS (P:Program) (ev:Operand->SV) (H:List SO) (base:Nat) (o:Oper):R zai:=opD o.op P ev H base
end
end
noncomputable section
noncomputable section
variable {α:Type}
inductive zaM where
 | code (c:Code)
 | inBlock (id:Nat)
 | inLoop (body:Code)
 | inScope (body:Code)
 | ops (os:Array Oper) (l:List Oper)
 | zfq (nm:Nat)
 | zes (nm:Nat)
 | beginRound
structure SF where
 fn:FuncId
 tmps:List SV
 todo:List zaM
 defers:List SD
 roundOf:Option Nat
structure SS where
 frames:List SF
 heap:List SO
inductive Tree where
 | done (v:SV) (H:List SO)
 | stop (s:SS)
 | need (p:Prop) (t:Tree)
 | fork (b:Bool) (t f:Tree)
 | stuck (n:Nat)
 | any (k:(Nat->Nat)->Tree)
def R.tree (r:R α) (k:α->Tree):Tree :=
 R.rec (motive:=fun _=>Tree) (fun a=>k a) (fun p _ ih=>.need p ih) (fun b _ _ t f=>.fork b t f) (fun n=>.stuck n) (fun _ ih=>.any ih) r
def R.zed (r:R α) (k:α->Tree):Tree :=
 R.rec (motive:=fun _=>Tree) (fun a=>k a) (fun p _ ih=>.need p ih) (fun b _ _ t f=>.fork b t f) (fun n=>.stuck n) (fun _ _=>.stuck 433) r
structure zaz where
 v:SV
 sets:List (Nat × SO)
 news:List SO
abbrev zaR:=List SV->List SO->Nat->R zaz
structure Cfg where
 P:Program
 glob:Nat->Option Nat
 sums:FuncId->Option zaR
 zeW:Option (Nat × Nat)
 zeI:FuncId->Option (zaR × zaR):=fun _=>none
 zdM:Option Nat:=none
 each:Array Oper->Bool:=fun _=>false
def qkc (H:List SO) (sets:List (Nat × SO)):List SO:=List.rec (motive:=fun _=>List SO->List SO) (fun H=>H) (fun a _ ih H=>ih (zbz H a.1 a.2)) sets H
def qcc (H:List SO) (sets:List (Nat × SO)) (news:List SO):List SO:=List.rec (motive:=fun _=>List SO) (qkc H sets) (fun x r _=>app (qkc H sets) (x::r)) news
def qap (id:Nat):List zaM->Option (List zaM)
 | .inBlock id'::k=>if id'=id then some k else qap id k
 | _::k=>qap id k
 | []=>none
def zb3 (T:List SV) (dst:Option Tmp) (v:SV):List SV:=zah dst T fun d=>zbz T d v
def jnk (os:Array Oper) (l:List Oper) (k:List zaM) (fr:SF) (v:SV):Option SF :=
 List.rec (motive:=fun _=>Option SF) none (fun o l _=>some ⟨fr.fn,zb3 fr.tmps o.dst v,.ops os l::k,fr.defers,fr.roundOf⟩) l
def zk3 (nm:Nat) (k:List zaM) (fr:SF) (_v:SV):Option SF:=some ⟨fr.fn,fr.tmps,.zes nm::k,fr.defers,fr.roundOf⟩
def qbp (_k:List zaM) (_fr:SF) (_v:SV):Option SF:=none
def q61 (x:zaM):List zaM->SF->SV->Option SF :=
 zaM.rec (motive:=fun _=>List zaM->SF->SV->Option SF) (fun _=>qbp) (fun _=>qbp) (fun _=>qbp) (fun _=>qbp) jnk zk3 (fun _=>qbp) qbp x
def qcp (t:List zaM) (fr:SF) (v:SV):Option SF:=List.rec (motive:=fun _=>Option SF) none (fun x k _=>q61 x k fr v) t
def SF.finish (fr:SF) (v:SV):Option SF:=qcp fr.todo fr v
def qpe (P:Program) (f:FuncId) (args:List SV):Option SF :=
 zah (nth P.funcs.toList f) none fun fn=>zah fn.body none fun c =>
  some ⟨f,app args (zaX qwa (Nat.sub fn.ntmps (zay args))),[.code c],[],none⟩
def q4i (P:Program) (H:List SO) (T:List SV):List ResultVar->(List SV->R α)->R α
 | [],k=>k []
 | .tmp t::r,k=>q4i P H T r fun l=>k ((nth T t).getD qwa::l)
 | .cell a t::r,k=>zgL ((nth T a).getD qwa) fun a=>qz3 P H t a fun v=>q4i P H T r fun l=>k (v::l)
def qin:List SV->SV
 | [v]=>v
 | l=>.tuple l
def q5i (H:List SO) (nm:Nat):Option (LoopState × Option Code × FuncId × List SV × Array Tmp × Code × Code × Nat) :=
 match nth H nm with
 | some (.loop s p f T ps a b d)=>some (s,p,f,T,ps,a,b,d)
 | _=>none
def qi4 (rest:List SF) (H:List SO) (v:SV) (k:SS->Tree):Tree :=
 match rest with
 | []=>.done v H
 | c::cs=>match c.finish v with
   | some c=>k ⟨c::cs,H⟩
   | none=>.stuck 400
def q1j (H:List SO) (rest:List SF) (nm:Nat) (jump:Option Code) (k:SS->Tree):Tree :=
 match q5i H nm,rest with
 | some (_,_,f,T,ps,a,b,d),c::cs =>
   match c.finish (.bool (.lit jump.isNone)) with
   | some c=>k ⟨c::cs,zbz H nm (.loop (if jump.isNone then .ready else .done) jump f T ps a b d)⟩
   | none=>.stuck 401
 | _,_=>.stuck 402
def qkx (c:Cfg) (fn:SFn) (args:List SV) (pick:zaR × zaR->zaR) (H:List SO) (k:List SO->Tree):Tree :=
 SFn.rec (motive:=fun _=>Tree) (fun g=>Fn.rec (motive:=fun _=>Tree) (fun f=>zah (c.zeI f) (.stuck 405) fun s=>(pick s args H (zay H)).tree fun r=>k (qcc H r.sets r.news)) (fun _=>.stuck 405) (fun _ _=>.stuck 405) (fun _ _ _ _=>.stuck 405) (fun _=>.stuck 405) g) (fun _=>.stuck 405) fn
def qsi (c:Cfg):List SD->List SO->(List SO->Tree)->Tree
 | [],H,k=>k H
 | .coll nm::r,H,k=>match nth H nm with
   | some (.deferred (some []))=>qsi c r (zbz H nm (.deferred none)) k
   | _=>.stuck 405
 | .call fn args captured::r,H,k=>qkx c fn (app args captured) (fun s=>s.1) H fun H'=>qsi c r H' k
def qpr (c:Cfg) (fr:SF) (rest:List SF) (H:List SO) (k:SS->Tree):Tree :=
 match nth c.P.funcs.toList fr.fn with
 | none=>.stuck 403
 | some fn=>(q4i c.P H fr.tmps fn.results.toList fun l=>.ok (qin l)).tree fun v=>qi4 rest H v k
def qlx (c:Cfg) (v:SV) (H:List SO) (go:SS->Tree) (fr:SF) (rest:List SF) (below:Tree):Tree :=
 match fr.roundOf with
 | some _=>.stuck 413
 | none=>match fr.defers with
   | []=>zah (nth c.P.funcs.toList fr.fn) (.stuck 413) fun _=>below
   | .call fn args captured::ds=>qkx c fn (v::app args captured) (fun s=>s.2) H fun H'=>qsi c ds H' fun H'=>qpr c fr rest H' go
   | _=>.stuck 413
def qmx (c:Cfg) (v:SV) (H:List SO) (go:SS->Tree) (frs:List SF):Tree:=List.rec (motive:=fun _=>Tree) (.stuck 413) (fun fr rest ih=>qlx c v H go fr rest ih) frs
def qdp (c:Cfg) (fr:SF) (rest:List SF) (H:List SO) (k:SS->Tree):Tree :=
 match fr.roundOf with
 | some nm=>q1j H rest nm (match fr.todo with | []=>none | _=>some .ret) k
 | none=>qsi c fr.defers H fun H'=>qpr c fr rest H' k
def quk (c:Cfg) (f:FuncId) (args:List SV) (fr:SF) (rest:List SF) (H:List SO) (k:SS->Tree):Tree :=
 match c.sums f with
 | some s=>(s args H (zay H)).tree fun r =>
   match fr.finish r.v with
   | some fr=>k ⟨fr::rest,qcc H r.sets r.news⟩
   | none=>.stuck 406
 | none=>match qpe c.P f args with
   | some g=>k ⟨g::fr::rest,H⟩
   | none=>.stuck 407
def qep (T:List SV):List Tmp->List SV->List SV
 | t::ts,v::vs=>qep (zbz T t v) ts vs
 | _,_=>T
def qnx (nm:Nat) (args:List SV) (fr:SF) (rest:List SF) (H:List SO) (k:SS->Tree):Tree :=
 match q5i H nm with
 | some (_,_,f,T,ps,a,b,_) =>
   if zay args=zay ps.toList then k ⟨{ fn:=f,tmps:=qep T ps.toList args,todo:=[.code a,.beginRound,.code b],defers:=[],roundOf:=some nm }::fr::rest,H⟩
   else .stuck 408
 | none=>.stuck 409
def jdf (b:Bool) (want:Bool) (T:List SV) (d:Nat) (yes:List SV->Tree) (no:Tree):Tree :=
 .fork b (zab want (yes (zbz T d (.bool (.lit true)))) no) (zab want no (yes (zbz T d (.bool (.lit false)))))
def qqr (b:SB) (want:Bool) (T:List SV) (d:Nat) (yes:List SV->Tree) (no:Tree):Tree :=
 SB.rec (motive:=fun _=>Tree) (fun b=>zab b (zab want (yes T) no) (zab want no (yes T))) (fun b=>jdf b want T d yes no) b
def qvk (v:SV) (no:Tree):Tree:=v.asTuple (.stuck 410) fun l=>List.rec (motive:=fun _=>Tree) no (fun _ _ _=>.stuck 410) l
def qgh (os:Array Oper) (j:Nat):Option Tmp:=zah (nth os.toList j) none fun o=>o.dst
def ziB (j:Nat) (want:Bool) (os:Array Oper) (T:List SV) (yes:List SV->Tree) (no:Tree):Tree :=
 zah (qgh os j) no fun d=>zah (nth T d) (.stuck 410) fun v=>v.asBool (qvk v no) fun b=>qqr b want T d yes no
def qrr (g:Option (Nat × Bool)) (os:Array Oper) (T:List SV) (yes:List SV->Tree) (no:Tree):Tree:=zah g (yes T) fun p=>ziB p.1 p.2 os T yes no
structure Ctx where
 c:Cfg
 fr:SF
 frs:List SF
 H:List SO
 os:Array Oper
 l:List Oper
 k:List zaM
 dst:Option Tmp
 go:SS->Tree
def qh7 (v:SV) (sets:List (Nat × SO)) (news:List SO) (x:Ctx):Tree :=
 x.go ⟨⟨x.fr.fn,zb3 x.fr.tmps x.dst v,.ops x.os x.l::x.k,x.fr.defers,x.fr.roundOf⟩::x.frs,qcc x.H sets news⟩
def q69 (f:FuncId) (args:List SV) (x:Ctx):Tree:=quk x.c f args x.fr x.frs x.H x.go
def q79 (nm:Nat) (args:List SV) (x:Ctx):Tree:=qnx nm args x.fr x.frs x.H x.go
def q89 (d:SD) (x:Ctx):Tree:=zah x.fr.roundOf (x.go ⟨⟨x.fr.fn,zb3 x.fr.tmps x.dst qwa,.ops x.os x.l::x.k,d::x.fr.defers,x.fr.roundOf⟩::x.frs,x.H⟩) fun _=>.stuck 412
def q99 (v:SV) (x:Ctx):Tree:=qmx x.c v x.H x.go (x.fr::x.frs)
def resD (r:zai):Ctx->Tree:=zai.rec (motive:=fun _=>Ctx->Tree) qh7 q69 q79 q89 q99 (fun v _=>qh7 v [] []) r
def opT (o:Oper) (l:List Oper) (os:Array Oper) (k:List zaM) (fr:SF) (frs:List SF) (c:Cfg) (H:List SO) (go:SS->Tree):Tree :=
 qrr o.guard os fr.tmps
  (fun T=>(opS c.P (evS c.glob T) H (zay H) o).tree fun r=>resD r ⟨c,⟨fr.fn,T,fr.todo,fr.defers,fr.roundOf⟩,frs,H,os,l,k,o.dst,go⟩)
  (go ⟨⟨fr.fn,zb3 fr.tmps o.dst qwa,.ops os l::k,fr.defers,fr.roundOf⟩::frs,H⟩)
def qox (c:Cfg) (f:Operand) (params:Array Tmp) (assign body:Code) (fr:SF) (k:List zaM) (rest:List SF) (H:List SO) (go:SS->Tree):Tree :=
 let base:=zay H
 match fr.roundOf with
 | none =>
   let nm:=Nat.succ base
   let fr':SF:={ fr with todo:=.zfq nm::k,defers:=.coll base::fr.defers }
   let H':=app H [.deferred (some []),.loop .ready none fr.fn fr.tmps params assign body base]
   match q0j (evS c.glob fr.tmps f) [.func (.yield nm) [] []] with
   | .ok (.enter g args)=>quk c g args fr' rest H' go
   | _=>.stuck 414
 | some l=>match q5i H l with
   | some (_,_,_,_,_,_,_,d) =>
     let fr':SF:={ fr with todo:=.zfq base::k }
     let H':=app H [.loop .ready none fr.fn fr.tmps params assign body d]
     match q0j (evS c.glob fr.tmps f) [.func (.yield base) [] []] with
     | .ok (.enter g args)=>quk c g args fr' rest H' go
     | _=>.stuck 415
   | none=>.stuck 416
abbrev za4:=List zaM->SF->List SF->Cfg->List SO->(SS->Tree)->Tree
def SF.to (fr:SF) (todo:List zaM):SF:=⟨fr.fn,fr.tmps,todo,fr.defers,fr.roundOf⟩
def zhb:za4:=fun k fr rest _ H go=>go ⟨fr.to k::rest,H⟩
def seqT (a b:Code):za4:=fun k fr rest _ H go=>go ⟨fr.to (.code a::.code b::k)::rest,H⟩
def zlf (v:SB) (a b:Code):za4 :=
 SB.rec (motive:=fun _=>za4)
  (fun v=>zab v (fun k fr rest _ H go=>go ⟨fr.to (.code a::k)::rest,H⟩) (fun k fr rest _ H go=>go ⟨fr.to (.code b::k)::rest,H⟩))
  (fun p k fr rest _ H go=>.fork p (go ⟨fr.to (.code a::k)::rest,H⟩) (go ⟨fr.to (.code b::k)::rest,H⟩)) v
def qj4 (x:Operand) (a b:Code):za4:=fun k fr rest c H go=>(evS c.glob fr.tmps x).asBool (.stuck 417) fun v=>zlf v a b k fr rest c H go
def jok (id:Nat) (body:Code):za4:=fun k fr rest _ H go=>go ⟨fr.to (.code body::.inBlock id::k)::rest,H⟩
def zkt (body:Code):za4:=fun k fr rest _ H go=>go ⟨fr.to (.code body::.inLoop body::k)::rest,H⟩
def jpk (body:Code):za4:=fun k fr rest _ H go=>go ⟨fr.to (.inLoop body::k)::rest,H⟩
def jqk (body:Code):za4:=fun k fr rest _ H go=>go ⟨fr.to (.code body::.inScope body::k)::rest,H⟩
def qk4 (id:Nat):za4:=fun k fr rest _ H go =>
 match qap id k with
 | some k'=>go ⟨{ fr with todo:=k' }::rest,H⟩
 | none=>match fr.roundOf with
   | some nm=>q1j H rest nm (some (.exit id)) go
   | none=>.stuck 418
def retT:za4:=fun _ fr rest c H go=>qdp c fr rest H go
def ziE (os:Array Oper):za4:=fun k fr rest _ H go=>go ⟨fr.to (.ops os os.toList::k)::rest,H⟩
def qnd (acc:List Nat) (es:List Edge):Nat :=
 List.rec (motive:=fun _=>Nat) 0 (fun e _ ih=>zab (Region.binds .any e) (Nat.lor (Nat.lor (Nat.pow 2 e.on) (zah (nth acc e.on) 0 fun m=>m)) ih) ih) es
def qda (ops:List Oper):List Nat->List Nat:=List.rec (motive:=fun _=>List Nat->List Nat) (fun acc=>acc) (fun o _ ih acc=>ih (app acc [qnd acc o.after.toList])) ops
def q7f (m i:Nat):Bool:=Nat.beq (Nat.land m (Nat.sub (Nat.pow 2 i) 1)) (Nat.sub (Nat.pow 2 i) 1)
def que (ms:List Nat):Nat->Nat:=List.rec (motive:=fun _=>Nat->Nat) (fun _=>0) (fun m _ ih i=>zab (Nat.beq (ih (Nat.succ i)) 0) (zab (q7f m i) 0 (Nat.succ i)) (ih (Nat.succ i))) ms
def q71 (x:Operand):List Nat:=Operand.rec (motive:=fun _=>List Nat) (fun t=>[t]) (fun _=>[]) (fun _=>[]) (fun _=>[]) x
def q3b (os:Array Oper) (o:Oper):List Nat :=
 app (zah o.guard [] fun g=>zah (qgh os g.1) [] fun d=>[d]) (List.rec (motive:=fun _=>List Nat) [] (fun x _ ih=>app (q71 x) ih) o.op.operands.toList)
def zbV (m j:Nat):Bool:=Nat.testBit m j
def q2j (m:Nat) (reads:List Nat) (ops:List Oper):Nat->Bool :=
 List.rec (motive:=fun _=>Nat->Bool) (fun _=>true) (fun o _ ih j=>zab (zah o.dst true fun d=>zab (zbM d reads) (zbV m j) true) (ih (Nat.succ j)) false) ops
def q81 (i:Nat) (es:List Edge):Bool:=zaG (fun e=>zab (Region.binds .any e) (Nat.blt e.on i) true) es
def qmt (dst:Option Tmp) (ops:List Oper):Bool:=zah dst true fun d=>zaG (fun o=>zah o.dst true fun e=>zab (Nat.beq e d) false true) ops
def qod (os:Array Oper) (hd:List Oper) (ops:List Oper):List Nat->Nat->Bool :=
 List.rec (motive:=fun _=>List Nat->Nat->Bool) (fun _ _=>true)
  (fun o r ih ms i=>zab (q2j (List.rec (motive:=fun _=>Nat) 0 (fun m _ _=>m) ms) (q3b os o) hd 0) (zab (qmt o.dst r) (ih (List.rec (motive:=fun _=>List Nat) [] (fun _ r _=>r) ms) (Nat.succ i)) false) false) ops
def q5e (ms:List Nat):Nat->Bool:=List.rec (motive:=fun _=>Nat->Bool) (fun _=>true) (fun m _ ih i=>zab (q7f m i) (ih (Nat.succ i)) false) ms
def qub (ops:List Oper):Nat->Bool:=List.rec (motive:=fun _=>Nat->Bool) (fun _=>true) (fun o _ ih i=>zab (q81 i o.after.toList) (ih (Nat.succ i)) false) ops
structure zcz where
 c:Cfg
 os:Array Oper
 H:List SO
 fin:List SV->List SO->List (Nat × SO)->Tree
 mL:Option Nat
structure zeM where
 i:Nat
 m:Nat
 last:Bool
def qti (e:SO):Bool :=
 match e with
 | .own (.lst [_]) _ _=>false
 | .row _=>false
 | _=>true
def qqg (e:SO):SO:=zab (qti e) .gone e
def zfr (H:List SO) (n:Nat):Bool:=zah (nth H n) false qti
def zcz.atI (x:zcz) (i:Nat) (last:Bool):List SO:=zah x.mL x.H fun m=>zab last x.H (zab (zbV m i) x.H (zar qqg x.H))
def qnw (m:Nat) (N:List (Nat × SO)):List SO:=zar (fun p=>zab (zbV m p.1) p.2 .gone) N
def qfp (H:List SO) (m:Nat) (N:List (Nat × SO)):List SO:=List.rec (motive:=fun _=>List SO) H (fun _ _ _=>app H (qnw m N)) N
def qpx (v:SV) (news:List SO) (p:zeM) (dst:Option Tmp) (T:List SV) (N:List (Nat × SO)) (next:List SV->List (Nat × SO)->Tree):Tree :=
 match news with
 | []=>next (zb3 T dst v) N
 | [e]=>next (zb3 T dst v) (app N [(p.i,e)])
 | _=>.stuck 431
def qsr (ms:List Nat) (m last j:Nat):Bool:=zab (zbV m j) (zaG (fun i=>zab (zbV m i) true (zab (zbV (zah (nth ms i) 0 fun k=>k) j) false true)) (qsa last 0)) false
def qwk (x:zcz) (p:zeM) (N:List (Nat × SO)) (n:Nat):Bool :=
 zab (Nat.ble (zay x.H) n) (zah (nth N (Nat.sub n (zay x.H))) false fun q=>qsr (qda x.os.toList []) p.m p.i q.1) false
def qi7 (v:SV) (sets:List (Nat × SO)) (news:List SO) (x:zcz) (p:zeM) (dst:Option Tmp) (T:List SV) (N:List (Nat × SO)):Tree :=
 match news with
 | []=>zab p.last (zah x.mL (.stuck 435) fun m=>zab (Nat.beq m p.m) (zab (zaG (fun q=>zab (zfr x.H q.1) true (qwk x p N q.1)) sets) (x.fin (zb3 T dst v) (zar (fun p=>p.2) N) sets) (.stuck 436)) (.stuck 437)) (.stuck 432)
 | _=>.stuck 438
def qwl (v:SV) (sets:List (Nat × SO)) (news:List SO) (x:zcz) (p:zeM) (dst:Option Tmp) (T:List SV) (N:List (Nat × SO)) (next:List SV->List (Nat × SO)->Tree):Tree :=
 match sets with
 | []=>qpx v news p dst T N next
 | _=>qi7 v sets news x p dst T N
def qnt (f:FuncId) (args:List SV) (x:zcz) (p:zeM) (dst:Option Tmp) (T:List SV) (N:List (Nat × SO)) (next:List SV->List (Nat × SO)->Tree):Tree :=
 match x.c.sums f with
 | some s=>(s args (qfp (x.atI p.i p.last) p.m N) (Nat.add (zay x.H) (zay N))).zed fun r=>qwl r.v r.sets r.news x p dst T N next
 | none=>.stuck 433
def zk6 (r:zai):zcz->zeM->Option Tmp->List SV->List (Nat × SO)->(List SV->List (Nat × SO)->Tree)->Tree :=
 zai.rec (motive:=fun _=>zcz->zeM->Option Tmp->List SV->List (Nat × SO)->(List SV->List (Nat × SO)->Tree)->Tree) qwl qnt (fun _ _ _ _ _ _ _ _=>.stuck 434) (fun _ _ _ _ _ _ _=>.stuck 434) (fun _ _ _ _ _ _ _=>.stuck 434) (fun v _=>qwl v [] []) r
def zik (o:Oper) (x:zcz) (p:zeM) (T:List SV) (N:List (Nat × SO)) (next:List SV->List (Nat × SO)->Tree):Tree :=
 qrr o.guard x.os T (fun T'=>(opS x.c.P (evS x.c.glob T') (qfp (x.atI p.i p.last) p.m N) (Nat.add (zay x.H) (zay N)) o).zed fun r=>zk6 r x p o.dst T' N next) (next (zb3 T o.dst qwa) N)
def q0f (ms:List Nat):Nat:=List.rec (motive:=fun _=>Nat) 0 (fun m _ _=>m) ms
def q7d (ms:List Nat):List Nat:=List.rec (motive:=fun _=>List Nat) [] (fun _ r _=>r) ms
def qow (ops:List Oper) (x:zcz):List Nat->Nat->List SV->List (Nat × SO)->Tree :=
 List.rec (motive:=fun _=>List Nat->Nat->List SV->List (Nat × SO)->Tree) (fun _ _ T N=>x.fin T (zar (fun p=>p.2) N) []) (fun o r ih ms i T N=>zik o x ⟨i,q0f ms,List.rec (motive:=fun _=>Bool) true (fun _ _ _=>false) r⟩ T N (ih (q7d ms) (Nat.succ i))) ops
def qxh (os:Array Oper) (ops:List Oper) (ms:List Nat) (s:Nat):Bool :=
 zab (qub ops 0) (zab (qod os (qza ops s) (qza ops s) ms 0) (q5e (qwb ms s) s) false) false
def jef (o:Oper):Bool:=match o.op with | .store .. => true | _=>false
def qtr (ops:List Oper) (ms:List Nat) (s:Nat):Option Nat:=zah (nth ops (Nat.pred s)) none fun o=>zab (jef o) (nth ms (Nat.pred s)) none
def ql4 (os:Array Oper) (s:Nat) (ms:List Nat):za4:=fun k fr rest c H go =>
 zab (qxh os os.toList ms s)
  (qow (qza os.toList s) ⟨c,os,H,fun T N sets=>go ⟨⟨fr.fn,T,.ops os (qwb os.toList s)::k,fr.defers,fr.roundOf⟩::rest,qcc (app H N) sets []⟩,qtr os.toList ms s⟩ ms 0 fr.tmps [])
  (.stuck 430)
def intT (P:Program) (t:TypeId):Bool:=zah (P.underlying t) false fun d=>match d with | .int _=>true | _=>false
def jrk (b:Builtin):Bool:=match b with | .len=>false | .min=>false | _=>true
def qic (P:Program) (o:Oper):Bool :=
 match o.op with
 | .move _=>false | .assign _=>false | .pick .. => false | .build .. => false | .load .. => false | .nilCheck _=>false | .binOp .. => false | .unOp .. => false | .sliceToArrayPointer .. => false | .makeInterface .. => false
 | .makeFunc .. => false | .lookup .. => false | .slice .. => false | .fieldAddr .. => false | .field .. => false | .indexAddr .. => false | .index .. => false | .extract .. => false
 | .convert s d _=>zab (intT P s) (zab (intT P d) false true) true
 | .call c=>match c.callee with | .builtin b=>jrk b | _=>true
 | _=>true
def zcu (P:Program) (i m:Nat) (ops:List Oper):List Nat->Nat->Bool :=
 List.rec (motive:=fun _=>List Nat->Nat->Bool) (fun _ _=>true)
  (fun o _ ih ms j=>zab (zab (qic P o) (zab (Nat.beq j i) true (zab (Nat.blt j i) (zbV m j) (zbV (q0f ms) i))) true) (ih (q7d ms) (Nat.succ j)) false) ops
structure zcP where
 hid:SO->Bool
 c:Cfg
 os:Array Oper
 H:List SO
 hd:List Oper
 ms:List Nat
 fin:List SV->List SO->Tree
def q8d (hid:SO->Bool) (e:SO):SO:=zab (hid e) .gone e
def zfk (hid:SO->Bool) (H:List SO) (n:Nat):Bool:=zah (nth H n) false fun e=>zab (hid e) false true
def u8K (k:IntKind):Bool:=match k with | .u8=>true | _=>false
def jff (e:SO):Bool:=zab (qti e) (match e with | .own (.lst l) _ _=>zab (zaG (fun v=>v.asInt false fun k _=>u8K k) l) false true | _=>true) false
def chNo (v:SV) (sets:List (Nat × SO)) (news:List SO) (dst:Option Tmp) (T:List SV) (H:List SO) (next:List SV->List SO->Tree):Tree :=
 match sets,news with
 | [],[]=>next (zb3 T dst v) H
 | _,_=>.stuck 443
def qur (v:SV) (sets:List (Nat × SO)) (news:List SO) (mv:Bool) (x:zcP) (dst:Option Tmp) (T:List SV) (H:List SO) (next:List SV->List SO->Tree):Tree :=
 zab mv (zab (zaG (fun q=>zab (zfk x.hid x.H q.1) false true) sets) (next (zb3 T dst v) (qcc H sets news)) (.stuck 442)) (chNo v sets news dst T H next)
def qot (f:FuncId) (args:List SV) (mv:Bool) (x:zcP) (G:List SO) (dst:Option Tmp) (T:List SV) (H:List SO) (next:List SV->List SO->Tree):Tree :=
 match x.c.sums f with
 | some s=>(s args G (zay H)).zed fun r=>qur r.v r.sets r.news mv x dst T H next
 | none=>.stuck 433
def zlj (r:zai):Bool->zcP->List SO->Option Tmp->List SV->List SO->(List SV->List SO->Tree)->Tree :=
 zai.rec (motive:=fun _=>Bool->zcP->List SO->Option Tmp->List SV->List SO->(List SV->List SO->Tree)->Tree) (fun v sets news mv x _=>qur v sets news mv x) qot (fun _ _ _ _ _ _ _ _ _=>.stuck 434) (fun _ _ _ _ _ _ _ _=>.stuck 434) (fun _ _ _ _ _ _ _ _=>.stuck 434) (fun v _ _ _ _ dst T H next=>next (zb3 T dst v) H) r
def qpw (G:List SO) (mv:Bool) (o:Oper) (x:zcP) (T:List SV) (H:List SO) (next:List SV->List SO->Tree):Tree :=
 qrr o.guard x.os T (fun T'=>(opS x.c.P (evS x.c.glob T') G (zay H) o).zed fun r=>zlj r mv x G o.dst T' H next) (next (zb3 T o.dst qwa) H)
def zlk (o:Oper) (x:zcP) (i m:Nat) (T:List SV) (H:List SO) (next:List SV->List SO->Tree):Tree :=
 zab (zcu x.c.P i m x.hd x.ms 0) (qpw H (qic x.c.P o) o x T H next) (zab (qic x.c.P o) (.stuck 440) (qpw (zar (q8d x.hid) x.H) false o x T H next))
def chP (ops:List Oper) (x:zcP):List Nat->Nat->List SV->List SO->Tree :=
 List.rec (motive:=fun _=>List Nat->Nat->List SV->List SO->Tree) (fun _ _ T H=>x.fin T H) (fun o _ ih ms i T H=>zlk o x i (q0f ms) T H (ih (q7d ms) (Nat.succ i))) ops
def qvr (hid:SO->Bool) (os:Array Oper) (s:Nat) (ms:List Nat):za4:=fun k fr rest c H go =>
 zab (qxh os os.toList ms s)
  (chP (qza os.toList s) ⟨hid,c,os,H,qza os.toList s,ms,fun T H'=>go ⟨⟨fr.fn,T,.ops os (qwb os.toList s)::k,fr.defers,fr.roundOf⟩::rest,H'⟩⟩ ms 0 fr.tmps H)
  (.stuck 430)
def qqx (o:Oper):Bool:=match o.op with | .call c=>(match c.callee with | .builtin b=>(match b with | .append=>true | _=>false) | _=>false) | _=>false
def qj7 (ops:List Oper):Bool:=List.rec (motive:=fun _=>Bool) false (fun o _ ih=>zab (qqx o) true ih) ops
def qm4 (v:SV) (sets:List (Nat × SO)) (news:List SO) (x:zcP) (dst:Option Tmp) (T:List SV) (H:List SO):Tree :=
 match sets,news with
 | [],[e]=>x.fin (zb3 T dst v) (app H [e])
 | _,_=>.stuck 444
def j2d (r:zai):zcP->Option Tmp->List SV->List SO->Tree :=
 zai.rec (motive:=fun _=>zcP->Option Tmp->List SV->List SO->Tree) qm4 (fun _ _ _ _ _ _=>.stuck 445) (fun _ _ _ _ _ _=>.stuck 445) (fun _ _ _ _ _=>.stuck 445) (fun _ _ _ _ _=>.stuck 445) (fun _ _ _ _ _ _=>.stuck 445) r
def qrx (e:SO):Bool:=match e with | .mem _=>false | _=>true
def q3j (H:List SO):Bool:=List.rec (motive:=fun _=>Bool) true (fun e _ ih=>zab (qrx e) ih false) H
theorem qxl:∀ {H:List SO},q3j H=true->∀ (n:Nat) (m:Mem),H[n]? ≠ some (SO.mem m)
 | [],_,_,_,h=>by simp at h
 | e::H,hn,n,m,h=>by
   have hn:zab (qrx e) (q3j H) false=true:=hn;cases he:qrx e with
   | false=>rw [he] at hn; cases hn
   | true =>
     rw [he] at hn;cases n with
     | zero=>cases h; cases he
     | succ n=>exact qxl hn n m h
def qn4 (o:Oper) (x:zcP) (T:List SV) (H:List SO):Tree :=
 zab (zah o.guard true fun _=>false) ((opS x.c.P (evS x.c.glob T) (zar (q8d x.hid) x.H) (zay H) o).zed fun r=>j2d r x o.dst T H) (.stuck 446)
def zhj (o:Oper) (x:zcP) (T:List SV) (H:List SO):Tree:=zab (q3j H) (qn4 o x T H) (.stuck 448)
def qwr (hid:SO->Bool) (os:Array Oper) (s:Nat) (ms:List Nat):za4:=fun k fr rest c H go =>
 zab (qxh os os.toList ms (Nat.succ s))
  (zah (nth os.toList s) (.stuck 447) fun o=>chP (qza os.toList s) ⟨hid,c,os,H,qza os.toList s,ms,fun T H'=>zhj o ⟨hid,c,os,H,[],[],fun T H'=>go ⟨⟨fr.fn,T,.ops os (qwb os.toList (Nat.succ s))::k,fr.defers,fr.roundOf⟩::rest,H'⟩⟩ T H'⟩ ms 0 fr.tmps H)
  (.stuck 430)
def zkC (s:zaR):Bool:=match s [] [] 0 with | .stuck n=>zab (Nat.beq n 7777) true (Nat.beq n 7776) | _=>false
def jsk (s:zaR):Bool:=match s [] [] 0 with | .stuck n=>Nat.beq n 7777 | _=>false
def ziC (c:Cfg) (o:Oper):Bool:=match o.op with | .call cl=>(match cl.callee with | .value f=>(match f with | .func f=>zah (c.sums f) false jsk | _=>false) | _=>false) | _=>false
def jgf (c:Cfg) (ops:List Oper):Bool:=List.rec (motive:=fun _=>Bool) false (fun o _ ih=>zab (ziC c o) true ih) ops
def zi1 (c:Cfg) (o:Oper):Bool:=match o.op with | .call cl=>(match cl.callee with | .value f=>(match f with | .func f=>zah (c.sums f) false zkC | _=>false) | _=>false) | _=>false
def qk7 (c:Cfg) (ops:List Oper):Bool:=List.rec (motive:=fun _=>Bool) false (fun o _ ih=>zab (zi1 c o) true ih) ops
def qyl (P:Program) (os:Array Oper) (s:Nat) (ms:List Nat):Bool:=zah (nth os.toList (Nat.pred s)) false fun o=>zab (qic P o) (zab (zcu P (Nat.pred s) (zah (nth ms (Nat.pred s)) 0 fun m=>m) (qza os.toList s) ms 0) false true) false
def hidP (c:Cfg) (ops:List Oper) (e:SO):Bool:=zab (jgf c ops) (jff e) false
def q2g (f:Nat->Oper->List (List Nat)) (ops:List Oper):Nat->List (List Nat):=List.rec (motive:=fun _=>Nat->List (List Nat)) (fun _=>[]) (fun o _ ih i=>app (f i o) (ih (Nat.succ i))) ops
def qqw (l:List (List Nat)):List (List Nat):=List.rec (motive:=fun _=>List (List Nat)) [[]] (fun _ _ _=>l) l
def zh0 (b:Nat) (o:Oper):Bool:=zaG (fun e=>zab (Region.binds .any e) (zbV b e.on) true) o.after.toList
def qrg (ops:List Oper) (fuel:Nat):Nat->List (List Nat) :=
 Nat.rec (motive:=fun _=>Nat->List (List Nat)) (fun _=>[[]]) (fun _ ih b=>qqw (q2g (fun i o=>zab (zbV b i) [] (zab (zh0 b o) (zar (fun l=>i::l) (ih (Nat.lor b (Nat.pow 2 i)))) [])) ops 0)) fuel
def qhh (f:List Nat->Tree) (l:List (List Nat)):Nat->Nat->Tree :=
 List.rec (motive:=fun _=>Nat->Nat->Tree) (fun _ _=>.stuck 449) (fun a r ih n i=>List.rec (motive:=fun _=>Tree) (f a) (fun _ _ _=>.fork (decide (n=i)) (f a) (ih n (Nat.succ i))) r) l
def opsE (ops:List Oper) (idx:List Nat):List Oper:=List.rec (motive:=fun _=>List Oper) [] (fun i _ ih=>zah (nth ops i) ih fun o=>o::ih) idx
def qrw (os:Array Oper):za4:=fun k fr rest _ H go=>.any fun z=>qhh (fun idx=>go ⟨fr.to (.ops os (opsE os.toList idx)::k)::rest,H⟩) (qrg os.toList (zay os.toList) 0) (z 0) 0
def qxr (ms:List Nat) (w:Nat):Bool:=zaG (fun m=>q7f m w) (qwb ms w)
def jhf (ms:List Nat) (l:List Nat):Nat:=List.rec (motive:=fun _=>Nat) 0 (fun w _ ih=>zab (qxr ms w) w ih) l
def qo4 (os:Array Oper) (w:Nat) (ms:List Nat):za4:=fun k fr rest c H go =>
 zab (qub os.toList 0) (zab (qod os (qza os.toList w) (qza os.toList w) ms 0) (zab (qxr ms w) (zab (Nat.ble w (zay os.toList))
  (qow (qza os.toList w) ⟨c,os,H,fun T N sets=>.any fun z=>qhh (fun idx=>go ⟨⟨fr.fn,T,.ops os (opsE os.toList idx)::k,fr.defers,fr.roundOf⟩::rest,qcc (app H N) sets []⟩) (qrg os.toList (Nat.sub (zay os.toList) w) (Nat.sub (Nat.pow 2 w) 1)) (z 0) 0,none⟩ ms 0 fr.tmps [])
  (.stuck 451)) (.stuck 451)) (.stuck 451)) (.stuck 451)
def j3d (os:Array Oper) (s:Nat) (ms:List Nat):za4:=zab (qxh os os.toList ms s) (ql4 os s ms) (qo4 os (jhf ms (qsa (zay ms) 1)) ms)
def j4d (os:Array Oper) (s:Nat) (ms:List Nat):za4:=fun k fr rest c H go =>
 zab (qk7 c (qza os.toList s)) (zab (qyl c.P os s ms) (qwr (hidP c (qza os.toList s)) os (Nat.pred s) ms k fr rest c H go) (qvr (hidP c (qza os.toList s)) os s ms k fr rest c H go)) (j3d os s ms k fr rest c H go)
def atN (l:List Nat) (i:Nat):Nat:=zah (nth l i) 0 fun m=>m
def qzl (f:Nat->Bool) (n:Nat):Nat:=Nat.rec (motive:=fun _=>Nat) 0 (fun q ih=>zab (f q) (Nat.lor ih (Nat.pow 2 q)) ih) n
def zlp (ms acc:List Nat) (i j:Nat):Bool:=zab (zbV (atN ms i) j) true (zab (zbM i acc) (zbM j acc) false)
def msP (ms acc pi:List Nat):List Nat:=zar (fun p=>qzl (fun q=>zlp ms acc (atN pi p) (atN pi q)) p) (qsa (zay pi) 0)
def q6i (l:List Nat):Bool:=List.rec (motive:=fun _=>Bool) true (fun a r ih=>zab (zbM a r) false ih) l
def zii (l:List Nat):List Nat->Bool:=List.rec (motive:=fun _=>List Nat->Bool) (fun r=>List.rec (motive:=fun _=>Bool) true (fun _ _ _=>false) r) (fun a _ ih r=>List.rec (motive:=fun _=>Bool) false (fun b r _=>zab (Nat.beq a b) (ih r) false) r) l
def qih (f:Nat->Bool) (l:List Nat):List Nat:=List.rec (motive:=fun _=>List Nat) [] (fun a _ ih=>zab (f a) (a::ih) ih) l
def piM (ms acc:List Nat) (s:Nat):List Nat :=
 List.rec (motive:=fun _=>List Nat->List Nat) (fun P=>app P (qih (fun j=>zab (zbM j P) false true) (qsa s 0)))
  (fun m _ ih P=>ih (app (app P (qih (fun j=>zab (zbV (atN ms m) j) (zab (zbM j P) false (zab (zbM j acc) false true)) false) (qsa s 0))) [m])) acc []
def j5d (s:Nat) (acc pi:List Nat):Bool :=
 zab (Nat.beq (zay pi) s) (zab (q6i pi) (zab (zaG (fun i=>zbM i pi) (qsa s 0)) (zii (qih (fun i=>zbM i acc) pi) acc) false) false) false
def okQ (os:Array Oper) (ops:List Oper) (s:Nat) (ms acc pi mp:List Nat):Bool :=
 zab (qub os.toList 0) (zab (qod os ops ops mp 0) (zab (q5e (qwb ms s) s) (zab (j5d s acc pi) (zaG (fun i=>zab (Nat.blt i s) (Nat.blt i (zay os.toList)) false) pi) false) false) false) false
def qsx (hid:SO->Bool) (os:Array Oper) (s:Nat) (ms acc:List Nat):za4:=fun k fr rest c H go =>
 zab (okQ os (opsE os.toList (piM ms acc s)) s ms acc (piM ms acc s) (msP ms acc (piM ms acc s)))
  (chP (opsE os.toList (piM ms acc s)) ⟨hid,c,os,H,opsE os.toList (piM ms acc s),msP ms acc (piM ms acc s),fun T H'=>go ⟨⟨fr.fn,T,.ops os (qwb os.toList s)::k,fr.defers,fr.roundOf⟩::rest,H'⟩⟩ (msP ms acc (piM ms acc s)) 0 fr.tmps H)
  (.stuck 430)
def q7i (ms todo:List Nat):List Nat:=qih (fun m=>zaG (fun j=>zab (zbV (atN ms m) j) false true) todo) todo
def q0l (m:Nat) (l:List Nat):List Nat:=qih (fun j=>zab (Nat.beq j m) false true) l
def j6d (f:Nat->Tree) (l:List Nat):Tree:=List.rec (motive:=fun _=>Tree) (.stuck 448) (fun m _ _=>f m) l
def zkg (f:List Nat->Tree) (ms:List Nat) (n:Nat):List Nat->List Nat->Tree :=
 Nat.rec (motive:=fun _=>List Nat->List Nat->Tree) (fun _ acc=>f acc) (fun _ ih todo acc=>.any fun z=>qhh (j6d fun m=>ih (q0l m todo) (app acc [m])) (zar (fun m=>[m]) (q7i ms todo)) (z 0) 0) n
def qxk (P:Program) (os:Array Oper) (s:Nat):List Nat:=qih (fun i=>zah (nth os.toList i) false (qic P)) (qsa s 0)
def qp4 (hid:SO->Bool) (os:Array Oper) (s:Nat) (ms:List Nat):za4:=fun k fr rest c H go =>
 zab (qub os.toList 0) (zkg (fun acc=>qsx hid os s ms acc k fr rest c H go) ms (zay (qxk c.P os s)) (qxk c.P os s) []) (.stuck 430)
def q91 (ops:List Oper):Bool:=Nat.ble 3 (List.rec (motive:=fun _=>Nat) 0 (fun o _ ih=>zab (qqx o) (Nat.succ ih) ih) ops)
def i64K (k:IntKind):Bool:=match k with | .i64=>true | _=>false
def jif (l:List SV):Bool:=match l with | .str _::_=>true | _=>false
def strE (e:SO):Bool:=match e with | .own (.lst l) _ _=>jif l | _=>false
def jtk (v:SV):Bool:=v.zeJ false fun _=>true
def headA (v:SV) (n:Nat):Bool:=zab (v.asInt false fun k _=>i64K k) (Nat.ble 8 n) (zab (jtk v) false true)
def qpt (e:SO):Bool:=zab (zab (strE e) true (qti e)) (match e with | .own (.lst l) _ _=>List.rec (motive:=fun _=>Bool) true (fun v _ _=>headA v (zay l)) l | .own (.fn g _) _ _=>zab (zdj (g 0)).isSome false true | .obj _=>false | _=>true) false
def qyr (P:Program) (hd:List Oper) (ms0:List Nat) (ops:List Oper):List Nat->Nat->Bool :=
 List.rec (motive:=fun _=>List Nat->Nat->Bool) (fun _ _=>true) (fun o _ ih ms i=>zab (zab (qic P o) (zcu P i (q0f ms) hd ms0 0) true) (ih (q7d ms) (Nat.succ i)) false) ops
def j7d (os:Array Oper) (s:Nat) (ms:List Nat):za4:=fun k fr rest c H go =>
 zab (qyl c.P os s ms)
  (zab (qyr c.P (qza os.toList (Nat.pred s)) ms (qza os.toList (Nat.pred s)) ms 0) (qwr qpt os (Nat.pred s) ms k fr rest c H go) (qrw os k fr rest c H go))
  (zab (qyr c.P (qza os.toList s) ms (qza os.toList s) ms 0) (qvr qpt os s ms k fr rest c H go) (qrw os k fr rest c H go))
def j8d (os:Array Oper) (s:Nat) (ms:List Nat):za4:=zab (qj7 (qza os.toList s)) (zab (q91 os.toList) (qp4 qpt os s ms) (j7d os s ms)) (j4d os s ms)
def qq4 (os:Array Oper):za4:=fun k fr rest c H go=>zab (c.each os) (qrw os k fr rest c H go) (j8d os (que (qda os.toList []) 0) (qda os.toList []) k fr rest c H go)
def jjf (draw:Bool) (os:Array Oper):za4:=zab draw (qq4 os) (ziE os)
def jkf (f:Operand) (ps:Array Tmp) (a b:Code):za4:=fun k fr rest c H go=>qox c f ps a b fr k rest H go
def noT:za4:=fun _ _ _ _ _ _=>.stuck 419
def j9d (x:Code):za4 :=
 Code.rec (motive:=fun _=>za4) zhb (fun _ os draw=>jjf draw os) (fun a b _ _=>seqT a b) (fun x a b _ _=>qj4 x a b) (fun id body _=>jok id body) (fun body _=>jpk body)
  (fun f ps a b _ _=>jkf f ps a b) (fun id=>qk4 id) (fun body _=>jqk body) (fun _=>zhb) (fun _=>noT) retT (fun _=>noT) x
def opsT (os:Array Oper) (l:List Oper):za4:=List.rec (motive:=fun _=>za4) zhb (fun o l _=>opT o l os) l
def qtx:za4:=fun k fr rest _ H go =>
 match fr.roundOf with
 | some nm=>match q5i H nm with
   | some (.ready,p,f,T,ps,a,b,d)=>go ⟨{ fr with todo:=k }::rest,zbz H nm (.loop .busy p f T ps a b d)⟩
   | _=>.stuck 421
 | none=>.stuck 422
def qux (nm:Nat):za4:=fun k fr rest _ H go =>
 match q5i H nm with
 | some (st,p,f,T,ps,a,b,d)=>match st with
   | .busy=>.stuck 423
   | _=>go ⟨{ fr with todo:=match p with | some j=>.code j::k | none=>k }::rest,zbz H nm (.loop .exhausted p f T ps a b d)⟩
 | none=>.stuck 424
def jae (x:zaM):za4:=zaM.rec (motive:=fun _=>za4) j9d (fun _=>zhb) zkt (fun _=>zhb) opsT (fun _=>noT) qux qtx x
def jbe (t:List zaM):SF->List SF->Cfg->List SO->(SS->Tree)->Tree :=
 List.rec (motive:=fun _=>SF->List SF->Cfg->List SO->(SS->Tree)->Tree) (fun fr rest c H go=>qdp c fr rest H go) (fun x k _=>jae x k) t
def jlf (frs:List SF):Cfg->List SO->(SS->Tree)->Tree :=
 List.rec (motive:=fun _=>Cfg->List SO->(SS->Tree)->Tree) (fun _ _ _=>.stuck 420) (fun fr rest _=>jbe fr.todo fr rest) frs
def Mem.free (m:Mem) (b:Nat):Prop:=(∀ a,a.block=b->m.cell a=none)/\m.own b=none
def Mem.fresh (m:Mem) (b:Nat):Nat:=@ite _ (m.free b) (Classical.propDecidable _) b (Classical.epsilon m.free)
def Mem.add (m:Mem) (b n cap:Nat) (el:TypeId) (V:Nat->Value):Mem :=
 ⟨fun a=>if a.block=b then (if a.spot=none/\a.off<n then some (V a.off) else none) else m.cell a,fun b'=>if b'=b then some (n,cap,el) else m.own b',m.old⟩
def Mem.drop (m:Mem) (b:Nat):Mem:=⟨fun a=>if a.block=b then none else m.cell a,fun b'=>if b'=b then none else m.own b',m.old⟩
abbrev Sub:=List (Nat × Nat × Nat)
def zd9 (σ:Sub) (nm:Nat):Option (Nat × Nat):=List.rec (motive:=fun _=>Option (Nat × Nat)) none (fun p _ ih=>zab (Nat.beq p.1 nm) (some p.2) ih) σ
def ziF (σ:Sub) (c:SC):Nat:=SC.rec (motive:=fun _=>Nat) (fun n=>n) (fun n=>n) (fun nm k=>zah (zd9 σ nm) 0 fun p=>p.2 - k) c
def okC (σ:Sub) (c:SC):Bool:=SC.rec (motive:=fun _=>Bool) (fun _=>true) (fun _=>true) (fun nm _=>zah (zd9 σ nm) false fun _=>true) c
def zeb (σ:Sub) (v:SV):Value :=
 SV.rec (motive_1:=fun _=>Value) (motive_2:=fun _=>Unit) (fun k n=>.int k n.den) (fun b=>.bool b.den) (fun s=>.string s.den) (fun a=>zah (zd9 σ a.nm) undef fun p=>.pointer (some ⟨p.1,a.off.den,none⟩)) (.pointer none)
  (fun a l c=>zah (zd9 σ a.nm) undef fun p=>.slice (some ⟨p.1,a.off.den,none⟩) l.den (ziF σ c)) (.slice none 0 0) (fun _=>undef) (.map none) (fun _ _ _ _ _=>undef) .nilFunc (fun _ _ _=>undef) .nilIface (fun _ _=>undef) (fun _ _=>undef) (fun v=>v) (fun _ _ _ _=>undef) () (fun _ _ _ _=>()) v
def okS (σ:Sub) (v:SV):Bool :=
 SV.rec (motive_1:=fun _=>Bool) (motive_2:=fun _=>Unit) (fun _ _=>true) (fun _=>true) (fun _=>true) (fun a=>zah (zd9 σ a.nm) false fun _=>true) true
  (fun a _ c=>zah (zd9 σ a.nm) false fun _=>okC σ c) true (fun _=>false) true (fun _ _ _ _ _=>false) true (fun _ _ _=>false) true (fun _ _=>false) (fun _ _=>false) (fun _=>true) (fun _ _ _ _=>false) () (fun _ _ _ _=>()) v
def qr4 (σ:Sub) (c:Cells) (f:(Nat->Value)->Nat->Tree):Tree :=
 Cells.rec (motive:=fun _=>Tree) (fun l=>zab (zaG (okS σ) l) (f (atV (zar (zeb σ) l)) (zay l)) (.stuck 960)) (fun g n=>.need (∀ j,j<n->okS σ (g j)=true) (f (fun j=>zeb σ (g j)) n)) (fun V n=>f V n) c
def qs4 (nm:Nat) (c:SC) (n:Nat):Nat:=SC.rec (motive:=fun _=>Nat) (fun _=>0) (fun _=>0) (fun nm' k=>zab (Nat.beq nm' nm) (zab (Nat.beq k 0) n 0) 0) c
def zeh (v:SV):List (Nat × Nat):=v.asSlice [] fun a l c=>[(a.nm,qs4 a.nm c l.den)]
def qjn (l:List SV):List (Nat × Nat):=List.rec (motive:=fun _=>List (Nat × Nat)) [] (fun v _ ih=>app (zeh v) ih) l
def zhW (σ:Sub) (nm L:Nat) (H:List SO) (j:Nat) (m:Mem) (e:SO) (k:Sub->List SO->Tree):Tree :=
 SO.rec (motive:=fun _=>Tree) (fun c _ el=>qr4 σ c fun V n=>.any fun z=>k ((nm,m.fresh (z 0),if L<=z 1 then z 1 else L)::σ) (zbz (zbz H nm .gone) j (.mem (m.add (m.fresh (z 0)) n (if L<=z 1 then z 1 else L) el V))))
  (fun _=>.stuck 961) (fun _ _ _ _ _ _ _ _=>.stuck 961) (fun _=>.stuck 961) (.stuck 961) (fun _=>.stuck 961) (fun _=>.stuck 961) e
def qsf (H:List SO) (j:Nat):Option Mem:=zah (nth H j) none fun e=>zhg e none
def zhX (j:Nat) (p:Nat × Nat) (σ:Sub) (H:List SO) (k:Sub->List SO->Tree):Tree :=
 zah (zd9 σ p.1) (zah (qsf H j) (.stuck 962) fun m=>zah (nth H p.1) (.stuck 962) fun e=>zhW σ p.1 p.2 H j m e k) fun _=>k σ H
def zfU (j:Nat) (l:List (Nat × Nat)):Sub->List SO->(Sub->List SO->Tree)->Tree :=
 List.rec (motive:=fun _=>Sub->List SO->(Sub->List SO->Tree)->Tree) (fun σ H k=>k σ H) (fun p _ ih σ H k=>zhX j p σ H fun σ H=>ih σ H k) l
def recO (σ:Sub) (nm:Nat) (H:List SO) (e:SO) (k:List SO->Tree):Tree :=
 SO.rec (motive:=fun _=>Tree) (fun c w el=>qr4 σ c fun V n=>k (zbz H nm (.own (.raw V n) w el))) (fun _=>k H) (fun _ _ _ _ _ _ _ _=>k H) (fun _=>k H) (k H) (fun _=>k H) (fun _=>k H) e
def zhZ (σ:Sub) (nm:Nat) (H:List SO) (k:List SO->Tree):Tree:=zah (nth H nm) (k H) fun e=>recO σ nm H e k
def zhY (σ:Sub) (l:List Nat):List SO->(List SO->Tree)->Tree :=
 List.rec (motive:=fun _=>List SO->(List SO->Tree)->Tree) (fun H k=>k H) (fun nm _ ih H k=>zhZ σ nm H fun H=>ih H k) l
def juk (o:Oper):Bool:=match o.op with | .buildSlice .. => true | .call c=>(match c.callee with | .builtin b=>(match b with | .append=>true | _=>false) | _=>false) | _=>false
def zkj (T:List SV) (o:Oper):List Nat:=zab (juk o) (zah o.dst [] fun d=>zah (nth T d) [] fun v=>v.asSlice [] fun a _ _=>[a.nm]) []
def jce (T:List SV) (os:List Oper):List Nat:=List.rec (motive:=fun _=>List Nat) [] (fun o _ ih=>app (zkj T o) ih) os
def zkl (e:SO):List (Nat × Nat):=SO.rec (motive:=fun _=>List (Nat × Nat)) (fun c _ _=>Cells.rec (motive:=fun _=>List (Nat × Nat)) (fun l=>qjn l) (fun _ _=>[]) (fun _ _=>[]) c) (fun _=>[]) (fun _ _ _ _ _ _ _ _=>[]) (fun _=>[]) [] (fun _=>[]) (fun _=>[]) e
def qzr (H:List SO) (l:List Nat):List (Nat × Nat):=List.rec (motive:=fun _=>List (Nat × Nat)) [] (fun nm _ ih=>app (zah (nth H nm) [] zkl) ih) l
def fnE (e:SO):Bool:=SO.rec (motive:=fun _=>Bool) (fun c _ _=>Cells.rec (motive:=fun _=>Bool) (fun l=>zfB (qjn l)) (fun _ _=>true) (fun _ _=>false) c) (fun _=>false) (fun _ _ _ _ _ _ _ _=>false) (fun _=>false) false (fun _=>false) (fun _=>false) e
where zfB (l:List (Nat × Nat)):Bool:=List.rec (motive:=fun _=>Bool) false (fun _ _ _=>true) l
def fnsE (H:List SO) (l:List Nat):List Nat:=List.rec (motive:=fun _=>List Nat) [] (fun nm _ ih=>zab (zah (nth H nm) false fnE) (nm::ih) ih) l
def qsw (j:Nat) (l:List Nat) (H:List SO) (k:List SO->Tree):Tree :=
 List.rec (motive:=fun _=>Tree) (k H) (fun p r _=>zfU j (p::r) [] H fun σ H'=>zhY σ (fnsE H' l) H' k) (qzr H l)
def zhN (x:Operand):Option Nat:=Operand.rec (motive:=fun _=>Option Nat) (fun t=>some t) (fun _=>none) (fun _=>none) (fun _=>none) x
def qkn (σ:Sub) (v:SV):SV:=v.asAgg (List.rec (motive:=fun _=>SV) v (fun _ _ _=>.val (zeb σ v)) (zeh v)) fun l=>.agg (zar (fun v=>List.rec (motive:=fun _=>SV) v (fun _ _ _=>.val (zeb σ v)) (zeh v)) l)
def zgO (σ:Sub) (v:SV):Bool:=v.asAgg (List.rec (motive:=fun _=>Bool) true (fun _ _ _=>okS σ v) (zeh v)) fun l=>zaG (fun v=>List.rec (motive:=fun _=>Bool) true (fun _ _ _=>okS σ v) (zeh v)) l
def qln (v:SV):List (Nat × Nat):=v.asAgg (zeh v) qjn
def q1l (j:Nat) (x:Operand) (T:List SV) (H:List SO) (k:List SV->List SO->Tree):Tree :=
 zah (zhN x) (k T H) fun t=>zah (nth T t) (k T H) fun v=>List.rec (motive:=fun _=>Tree) (k T H) (fun p r _=>zfU j (p::r) [] H fun σ H'=>zab (zgO σ v) (k (zbz T t (qkn σ v)) H') (.stuck 963)) (qln v)
def borrow (j:Nat) (m:Mem) (y:Value) (el:TypeId) (t:Nat) (T:List SV) (H:List SO) (k:List SV->List SO->Tree):Tree :=
 zab (q3j (zbz H j .gone)) (.need (qng y/\zaK y<=zb7 y/\zaS y=⟨(zaS y).block,0,none⟩/\∃ n,m.own (zaS y).block=some (n,zb7 y,el))
  (k (zbz T t (.slice ⟨zay H,.lit 0⟩ (.sym (zaK y)) (.rest (zay H) 0))) (app (zbz H j (.mem (m.drop (zaS y).block))) [.own (.raw (fun i=>zc2 m ⟨(zaS y).block,0,none⟩ i) (zah (m.own (zaS y).block) 0 fun p=>p.1)) false el]))) (.stuck 964)
def qtw (P:Program) (j:Nat) (c:Call) (T:List SV) (H:List SO) (k:List SV->List SO->Tree):Tree :=
 zah (nth c.args.toList 0) (k T H) fun x=>zah (zhN x) (k T H) fun t=>zah (nth T t) (k T H) fun v=>v.zdo (k T H) fun y =>
  zah (nth c.argTypes.toList 0) (k T H) fun st=>zah (P.underlying st) (k T H) fun d=>TypeDesc.zgx d (k T H) fun el=>zah (qsf H j) (k T H) fun m=>borrow j m y el t T H k
def zly (e:SO):Bool:=match e with | .obj (.za6 _ _ _ _)=>true | _=>false
def jvk (v:SV):Option Nat:=match v with | .map nm=>some nm | _=>none
def zkE (H:List SO) (v:SV):Bool:=zah (jvk v) false fun nm=>zah (nth H nm) false zly
def zkB (H:List SO) (v:SV):Bool:=v.zeJ false fun a=>zh1 (nth H a.nm)
def qvx (c:Cfg) (j:Nat) (os:Array Oper) (cl:Call) (T:List SV) (H:List SO) (k:List SV->List SO->Tree):Tree :=
 match cl.callee with
 | .builtin b=>(match b with | .append=>zab (c.each os) (qtw c.P j cl T H k) (k T H) | _=>k T H)
 | _=>k T H
def qwx (c:Cfg) (j:Nat) (os:Array Oper) (o:Oper) (T:List SV) (H:List SO) (k:List SV->List SO->Tree):Tree :=
 match o.guard with
 | some _=>k T H
 | none=>match o.op with
   | .mapUpdate _ m _ x=>zab (zkE H (evS c.glob T m)) (q1l j x T H k) (k T H)
   | .store _ a x=>zab (zkB H (evS c.glob T a)) (q1l j x T H k) (k T H)
   | .call cl=>qvx c j os cl T H k
   | _=>k T H
def ql7 (c:Cfg) (j:Nat) (x:zaM) (T:List SV) (H:List SO) (k:List SV->List SO->Tree):Tree :=
 zaM.rec (motive:=fun _=>Tree) (fun _=>k T H) (fun _=>k T H) (fun _=>k T H) (fun _=>k T H)
  (fun os l=>List.rec (motive:=fun _=>Tree) (qsw j (jce T os.toList) H fun H=>k T H) (fun o _ _=>qwx c j os o T H k) l) (fun _=>k T H) (fun _=>k T H) (k T H) x
def qm7 (c:Cfg) (j:Nat) (fr:SF) (H:List SO) (k:SF->List SO->Tree):Tree :=
 List.rec (motive:=fun _=>Tree) (k fr H) (fun x _ _=>ql7 c j x fr.tmps H fun T H=>k ⟨fr.fn,T,fr.todo,fr.defers,fr.roundOf⟩ H) fr.todo
def qxx (c:Cfg) (j:Nat) (s:SS) (k:SS->Tree):Tree :=
 List.rec (motive:=fun _=>Tree) (k s) (fun fr rest _=>qm7 c j fr s.heap fun fr H=>k ⟨fr::rest,H⟩) s.frames
def jaa (t:List zaM) (b:Bool):Bool:=List.rec (motive:=fun _=>Bool) false (fun x _ _=>zaM.rec (motive:=fun _=>Bool) (fun _=>false) (fun _=>false) (fun _=>b) (fun _=>false) (fun _ _=>false) (fun _=>false) (fun _=>false) false x) t
def ziG (n:Nat × Nat) (frs:List SF):Bool:=List.rec (motive:=fun _=>Bool) false (fun fr _ _=>jaa fr.todo (zab (Nat.beq (zay frs) n.1) (zab (Nat.beq n.2 0) true (Nat.beq (zay fr.todo) n.2)) false)) frs
def qt4 (c:Cfg) (s:SS):Bool:=zah c.zeW false fun n=>ziG n s.frames
def quw (c:Cfg) (s:SS) (go:SS->Tree):Tree:=jlf s.frames c s.heap go
def q0r (c:Cfg) (s:SS) (go:SS->Tree):Tree:=zah c.zdM (quw c s go) fun j=>qxx c j s fun s=>quw c s go
def simS (c:Cfg) (s:SS) (ih:SS->Tree) (b:Bool):Tree:=zab b (.stop s) (q0r c s ih)
def sim (c:Cfg) (n:Nat):SS->Tree :=
 Nat.rec (motive:=fun _=>SS->Tree) (fun s=>.stop s) (fun _ ih s=>simS c s ih (qt4 c s)) n
def zaY (c:Cfg) (n:Nat) (s:SS):Tree:=q0r c s (sim c n)
end
end
end Go.Sim
