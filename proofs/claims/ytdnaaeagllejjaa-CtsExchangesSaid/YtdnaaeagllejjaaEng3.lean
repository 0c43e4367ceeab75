/-
  The symbolic simulator, third part: the machine's steps.
-/
import Derived.Test.YtdnaaeagllejjaaEng2
namespace Go.Sim
noncomputable section
variable {α : Type}

inductive SItem where
  | code (c : Code)
  | inBlock (id : Nat)
  | inLoop (body : Code)
  | inScope (body : Code)
  /-- within a region: the region's operations; those that are left, in the text's order -/
  | ops (os : Array Oper) (l : List Oper)
  | inRF (nm : Nat)
  | endRF (nm : Nat)
  | beginRound
structure SF where
  fn : FuncId
  tmps : List SV
  todo : List SItem
  defers : List SD
  roundOf : Option Nat
structure SS where
  frames : List SF
  heap : List SO
inductive Tree where
  | done (v : SV) (H : List SO)
  | stop (s : SS)
  | need (p : Prop) (t : Tree)
  | fork (b : Bool) (t f : Tree)
  | stuck (n : Nat)
  | any (k : (Nat → Nat) → Tree)
def R.tree (r : R α) (k : α → Tree) : Tree :=
  R.rec (motive := fun _ => Tree) (fun a => k a) (fun p _ ih => .need p ih) (fun b _ _ t f => .fork b t f) (fun n => .stuck n) (fun _ ih => .any ih) r
/-- the same, in a region that draws its order -/
def R.treeD (r : R α) (k : α → Tree) : Tree :=
  R.rec (motive := fun _ => Tree) (fun a => k a) (fun p _ ih => .need p ih) (fun b _ _ t f => .fork b t f) (fun n => .stuck n) (fun _ _ => .stuck 433) r

/-- what a call comes to that is not entered: value, entries that turn, new entries -/
structure SumRes where
  v : SV
  sets : List (Nat × SO)
  news : List SO
abbrev Summ := List SV → List SO → Nat → R SumRes
structure Cfg where
  P : Program
  glob : Nat → Option Nat
  sums : FuncId → Option Summ
  /-- stop at the head of a loop, where so many frames stand -/
  stopAt : Option Nat

def setsH (H : List SO) (sets : List (Nat × SO)) : List SO := List.rec (motive := fun _ => List SO → List SO) (fun H => H) (fun a _ ih H => ih (setN H a.1 a.2)) sets H
def applyH (H : List SO) (sets : List (Nat × SO)) (news : List SO) : List SO := List.rec (motive := fun _ => List SO) (setsH H sets) (fun x r _ => app (setsH H sets) (x :: r)) news
def exitS (id : Nat) : List SItem → Option (List SItem)
  | .inBlock id' :: k => if id' = id then some k else exitS id k
  | _ :: k => exitS id k
  | [] => none
def putT (T : List SV) (dst : Option Tmp) (v : SV) : List SV := optC dst T fun d => setN T d v
/-- a frame behind the value that a call has handed back -/
def finOps (os : Array Oper) (l : List Oper) (k : List SItem) (fr : SF) (v : SV) : Option SF :=
  List.rec (motive := fun _ => Option SF) none (fun o l _ => some ⟨fr.fn, putT fr.tmps o.dst v, .ops os l :: k, fr.defers, fr.roundOf⟩) l
def finRF (nm : Nat) (k : List SItem) (fr : SF) (_v : SV) : Option SF := some ⟨fr.fn, fr.tmps, .endRF nm :: k, fr.defers, fr.roundOf⟩
def finNo (_k : List SItem) (_fr : SF) (_v : SV) : Option SF := none
def finItem (x : SItem) : List SItem → SF → SV → Option SF :=
  SItem.rec (motive := fun _ => List SItem → SF → SV → Option SF) (fun _ => finNo) (fun _ => finNo) (fun _ => finNo) (fun _ => finNo) finOps finRF (fun _ => finNo) finNo x
def finTodo (t : List SItem) (fr : SF) (v : SV) : Option SF := List.rec (motive := fun _ => Option SF) none (fun x k _ => finItem x k fr v) t
def SF.finish (fr : SF) (v : SV) : Option SF := finTodo fr.todo fr v
def enterF (P : Program) (f : FuncId) (args : List SV) : Option SF :=
  optC (nth P.funcs.toList f) none fun fn => optC fn.body none fun c =>
    some ⟨f, app args (repN undefS (Nat.sub fn.ntmps (lenN args))), [.code c], [], none⟩
def resultsR (P : Program) (H : List SO) (T : List SV) : List ResultVar → (List SV → R α) → R α
  | [], k => k []
  | .tmp t :: r, k => resultsR P H T r fun l => k ((nth T t).getD undefS :: l)
  | .cell a t :: r, k => ptrS ((nth T a).getD undefS) fun a => loadT P H t a fun v => resultsR P H T r fun l => k (v :: l)
def tupleS : List SV → SV
  | [v] => v
  | l => .tuple l
def loopOf (H : List SO) (nm : Nat) : Option (LoopState × Option Code × FuncId × List SV × Array Tmp × Code × Code × Nat) :=
  match nth H nm with
  | some (.loop s p f T ps a b d) => some (s, p, f, T, ps, a, b, d)
  | _ => none
/-- the value goes to the caller; or the run's bottom has returned -/
def backT (rest : List SF) (H : List SO) (v : SV) (k : SS → Tree) : Tree :=
  match rest with
  | [] => .done v H
  | c :: cs => match c.finish v with
    | some c => k ⟨c :: cs, H⟩
    | none => .stuck 400
def endRoundT (H : List SO) (rest : List SF) (nm : Nat) (jump : Option Code) (k : SS → Tree) : Tree :=
  match loopOf H nm, rest with
  | some (_, _, f, T, ps, a, b, d), c :: cs =>
    match c.finish (.bool (.lit jump.isNone)) with
    | some c => k ⟨c :: cs, setN H nm (.loop (if jump.isNone then .ready else .done) jump f T ps a b d)⟩
    | none => .stuck 401
  | _, _ => .stuck 402
/-- collections of deferred calls in which there is none -/
def undefer : List SD → List SO → Option (List SO)
  | [], H => some H
  | .coll nm :: r, H => match nth H nm with
    | some (.deferred (some [])) => undefer r (setN H nm (.deferred none))
    | _ => none
  | .call _ _ _ :: _, _ => none
def returnT (P : Program) (fr : SF) (rest : List SF) (H : List SO) (k : SS → Tree) : Tree :=
  match fr.roundOf with
  | some nm => endRoundT H rest nm (match fr.todo with | [] => none | _ => some .ret) k
  | none =>
    match nth P.funcs.toList fr.fn with
    | none => .stuck 403
    | some fn =>
      match undefer fr.defers H with
      | some H' => (resultsR P H' fr.tmps fn.results.toList fun l => .ok (tupleS l)).tree fun v => backT rest H' v k
      | none => .stuck 405
def callFT (c : Cfg) (f : FuncId) (args : List SV) (fr : SF) (rest : List SF) (H : List SO) (k : SS → Tree) : Tree :=
  match c.sums f with
  | some s => (s args H (lenN H)).tree fun r =>
    match fr.finish r.v with
    | some fr => k ⟨fr :: rest, applyH H r.sets r.news⟩
    | none => .stuck 406
  | none => match enterF c.P f args with
    | some g => k ⟨g :: fr :: rest, H⟩
    | none => .stuck 407
def setsP (T : List SV) : List Tmp → List SV → List SV
  | t :: ts, v :: vs => setsP (setN T t v) ts vs
  | _, _ => T
def roundT (nm : Nat) (args : List SV) (fr : SF) (rest : List SF) (H : List SO) (k : SS → Tree) : Tree :=
  match loopOf H nm with
  | some (_, _, f, T, ps, a, b, _) =>
    if lenN args = lenN ps.toList then k ⟨{ fn := f, tmps := setsP T ps.toList args, todo := [.code a, .beginRound, .code b], defers := [], roundOf := some nm } :: fr :: rest, H⟩
    else .stuck 408
  | none => .stuck 409
/-- is the operation carried out? -/
def wantSym (b : Bool) (want : Bool) (T : List SV) (d : Nat) (yes : List SV → Tree) (no : Tree) : Tree :=
  .fork b (boolC want (yes (setN T d (.bool (.lit true)))) no) (boolC want no (yes (setN T d (.bool (.lit false)))))
def wantB (b : SB) (want : Bool) (T : List SV) (d : Nat) (yes : List SV → Tree) (no : Tree) : Tree :=
  SB.rec (motive := fun _ => Tree) (fun b => boolC b (boolC want (yes T) no) (boolC want no (yes T))) (fun b => wantSym b want T d yes no) b
def isUndef (v : SV) (no : Tree) : Tree := v.asTuple (.stuck 410) fun l => List.rec (motive := fun _ => Tree) no (fun _ _ _ => .stuck 410) l
def dstOf (os : Array Oper) (j : Nat) : Option Tmp := optC (nth os.toList j) none fun o => o.dst
def wantG (j : Nat) (want : Bool) (os : Array Oper) (T : List SV) (yes : List SV → Tree) (no : Tree) : Tree :=
  optC (dstOf os j) no fun d => optC (nth T d) (.stuck 410) fun v => v.asBool (isUndef v no) fun b => wantB b want T d yes no
def wantT (g : Option (Nat × Bool)) (os : Array Oper) (T : List SV) (yes : List SV → Tree) (no : Tree) : Tree := optC g (yes T) fun p => wantG p.1 p.2 os T yes no
/-- behind an operation: its frame (the operation at its head), the frames below, the heap -/
structure Ctx where
  c : Cfg
  fr : SF
  frs : List SF
  H : List SO
  os : Array Oper
  l : List Oper
  k : List SItem
  dst : Option Tmp
  go : SS → Tree
def resVal (v : SV) (sets : List (Nat × SO)) (news : List SO) (x : Ctx) : Tree :=
  x.go ⟨⟨x.fr.fn, putT x.fr.tmps x.dst v, .ops x.os x.l :: x.k, x.fr.defers, x.fr.roundOf⟩ :: x.frs, applyH x.H sets news⟩
def resEnter (f : FuncId) (args : List SV) (x : Ctx) : Tree := callFT x.c f args x.fr x.frs x.H x.go
def resRound (nm : Nat) (args : List SV) (x : Ctx) : Tree := roundT nm args x.fr x.frs x.H x.go
def resD (r : OpRes) : Ctx → Tree := OpRes.rec (motive := fun _ => Ctx → Tree) resVal resEnter resRound (fun _ _ => .stuck 412) (fun _ _ => .stuck 413) (fun v _ => resVal v [] []) r
def opT (o : Oper) (l : List Oper) (os : Array Oper) (k : List SItem) (fr : SF) (frs : List SF) (c : Cfg) (H : List SO) (go : SS → Tree) : Tree :=
  wantT o.guard os fr.tmps
    (fun T => (opS c.P (evS c.glob T) H (lenN H) o).tree fun r => resD r ⟨c, ⟨fr.fn, T, fr.todo, fr.defers, fr.roundOf⟩, frs, H, os, l, k, o.dst, go⟩)
    (go ⟨⟨fr.fn, putT fr.tmps o.dst undefS, .ops os l :: k, fr.defers, fr.roundOf⟩ :: frs, H⟩)
def rangeT (c : Cfg) (f : Operand) (params : Array Tmp) (assign body : Code) (fr : SF) (k : List SItem) (rest : List SF) (H : List SO) (go : SS → Tree) : Tree :=
  let base := lenN H
  match fr.roundOf with
  | none =>
    let nm := Nat.succ base
    let fr' : SF := { fr with todo := .inRF nm :: k, defers := .coll base :: fr.defers }
    let H' := app H [.deferred (some []), .loop .ready none fr.fn fr.tmps params assign body base]
    match callT (evS c.glob fr.tmps f) [.func (.yield nm) [] []] with
    | .ok (.enter g args) => callFT c g args fr' rest H' go
    | _ => .stuck 414
  | some l => match loopOf H l with
    | some (_, _, _, _, _, _, _, d) =>
      let fr' : SF := { fr with todo := .inRF base :: k }
      let H' := app H [.loop .ready none fr.fn fr.tmps params assign body d]
      match callT (evS c.glob fr.tmps f) [.func (.yield base) [] []] with
      | .ok (.enter g args) => callFT c g args fr' rest H' go
      | _ => .stuck 415
    | none => .stuck 416
abbrev StepF := List SItem → SF → List SF → Cfg → List SO → (SS → Tree) → Tree
def SF.to (fr : SF) (todo : List SItem) : SF := ⟨fr.fn, fr.tmps, todo, fr.defers, fr.roundOf⟩
def popT : StepF := fun k fr rest _ H go => go ⟨fr.to k :: rest, H⟩
def seqT (a b : Code) : StepF := fun k fr rest _ H go => go ⟨fr.to (.code a :: .code b :: k) :: rest, H⟩
def condB (v : SB) (a b : Code) : StepF :=
  SB.rec (motive := fun _ => StepF)
    (fun v => boolC v (fun k fr rest _ H go => go ⟨fr.to (.code a :: k) :: rest, H⟩) (fun k fr rest _ H go => go ⟨fr.to (.code b :: k) :: rest, H⟩))
    (fun p k fr rest _ H go => .fork p (go ⟨fr.to (.code a :: k) :: rest, H⟩) (go ⟨fr.to (.code b :: k) :: rest, H⟩)) v
def condT (x : Operand) (a b : Code) : StepF := fun k fr rest c H go => (evS c.glob fr.tmps x).asBool (.stuck 417) fun v => condB v a b k fr rest c H go
def blockT (id : Nat) (body : Code) : StepF := fun k fr rest _ H go => go ⟨fr.to (.code body :: .inBlock id :: k) :: rest, H⟩
def loopT (body : Code) : StepF := fun k fr rest _ H go => go ⟨fr.to (.code body :: .inLoop body :: k) :: rest, H⟩
def scopeT (body : Code) : StepF := fun k fr rest _ H go => go ⟨fr.to (.code body :: .inScope body :: k) :: rest, H⟩
def exitT (id : Nat) : StepF := fun k fr rest _ H go =>
  match exitS id k with
  | some k' => go ⟨{ fr with todo := k' } :: rest, H⟩
  | none => match fr.roundOf with
    | some nm => endRoundT H rest nm (some (.exit id)) go
    | none => .stuck 418
def retT : StepF := fun _ fr rest c H go => returnT c.P fr rest H go
def textT (os : Array Oper) : StepF := fun k fr rest _ H go => go ⟨fr.to (.ops os os.toList :: k) :: rest, H⟩
/- A region that draws its order. The operations ahead of its tail may come in any order that the edges let; each is taken at the temporaries as they are in the text's order and at the region's first heap; it may read, and lay new memory. -/
/-- what must have come ahead of an operation, as bits -/
def maskOf (acc : List Nat) (es : List Edge) : Nat :=
  List.rec (motive := fun _ => Nat) 0 (fun e _ ih => boolC (Region.binds .any e) (Nat.lor (Nat.lor (Nat.pow 2 e.on) (optC (nth acc e.on) 0 fun m => m)) ih) ih) es
def masks (ops : List Oper) : List Nat → List Nat := List.rec (motive := fun _ => List Nat → List Nat) (fun acc => acc) (fun o _ ih acc => ih (app acc [maskOf acc o.after.toList])) ops
def allBefore (m i : Nat) : Bool := Nat.beq (Nat.land m (Nat.sub (Nat.pow 2 i) 1)) (Nat.sub (Nat.pow 2 i) 1)
/-- the length of the part ahead of the tail: behind it each operation comes behind all before it -/
def headLen (ms : List Nat) : Nat → Nat := List.rec (motive := fun _ => Nat → Nat) (fun _ => 0) (fun m _ ih i => boolC (Nat.beq (ih (Nat.succ i)) 0) (boolC (allBefore m i) 0 (Nat.succ i)) (ih (Nat.succ i))) ms
def readTmp (x : Operand) : List Nat := Operand.rec (motive := fun _ => List Nat) (fun t => [t]) (fun _ => []) (fun _ => []) (fun _ => []) x
def readsOp (os : Array Oper) (o : Oper) : List Nat :=
  app (optC o.guard [] fun g => optC (dstOf os g.1) [] fun d => [d]) (List.rec (motive := fun _ => List Nat) [] (fun x _ ih => app (readTmp x) ih) o.op.operands.toList)
def memN (n : Nat) (l : List Nat) : Bool := List.rec (motive := fun _ => Bool) false (fun a _ ih => boolC (Nat.beq a n) true ih) l
def bitN (m j : Nat) : Bool := Nat.testBit m j
/-- each writer (with its number, from j on) of what is read has come; no two write the same -/
def writersOK (m : Nat) (reads : List Nat) (ops : List Oper) : Nat → Bool :=
  List.rec (motive := fun _ => Nat → Bool) (fun _ => true) (fun o _ ih j => boolC (optC o.dst true fun d => boolC (memN d reads) (bitN m j) true) (ih (Nat.succ j)) false) ops
def edgesOK (i : Nat) (es : List Edge) : Bool := allN (fun e => boolC (Region.binds .any e) (Nat.blt e.on i) true) es
def dstFree (dst : Option Tmp) (ops : List Oper) : Bool := optC dst true fun d => allN (fun o => optC o.dst true fun e => boolC (Nat.beq e d) false true) ops
/-- the looks at the operations ahead of the tail ('hd': all of them) -/
def headOK (os : Array Oper) (hd : List Oper) (ops : List Oper) : List Nat → Nat → Bool :=
  List.rec (motive := fun _ => List Nat → Nat → Bool) (fun _ _ => true)
    (fun o r ih ms i => boolC (writersOK (List.rec (motive := fun _ => Nat) 0 (fun m _ _ => m) ms) (readsOp os o) hd 0) (boolC (dstFree o.dst r) (ih (List.rec (motive := fun _ => List Nat) [] (fun _ r _ => r) ms) (Nat.succ i)) false) false) ops
def tailOK (ms : List Nat) : Nat → Bool := List.rec (motive := fun _ => Nat → Bool) (fun _ => true) (fun m _ ih i => boolC (allBefore m i) (ih (Nat.succ i)) false) ms
def edgesAll (ops : List Oper) : Nat → Bool := List.rec (motive := fun _ => Nat → Bool) (fun _ => true) (fun o _ ih i => boolC (edgesOK i o.after.toList) (ih (Nat.succ i)) false) ops
/-- the frame's fixed part, and where to go on -/
structure DCtx where
  c : Cfg
  os : Array Oper
  H : List SO
  fin : List SV → List SO → List (Nat × SO) → Tree
  /-- where the last operation may turn entries: what it comes behind -/
  mL : Option Nat
/-- an operation's number, what it comes behind, and whether it is the last -/
structure DPos where
  i : Nat
  m : Nat
  last : Bool
/-- the entries that the last operation may turn -/
def hiddenE (e : SO) : Bool :=
  match e with
  | .own (.lst [_]) _ _ => false
  | .row _ => false
  | _ => true
def hideE (e : SO) : SO := boolC (hiddenE e) .gone e
def hidN (H : List SO) (n : Nat) : Bool := optC (nth H n) false hiddenE
/-- the heap as an operation sees it that may come ahead of the last one or behind it -/
def DCtx.atI (x : DCtx) (i : Nat) (last : Bool) : List SO := optC x.mL x.H fun m => boolC last x.H (boolC (bitN m i) x.H (mapN hideE x.H))
/-- the new entries: those of the operations that have come for certain -/
def maskN (m : Nat) (N : List (Nat × SO)) : List SO := mapN (fun p => boolC (bitN m p.1) p.2 .gone) N
def seenH (H : List SO) (m : Nat) (N : List (Nat × SO)) : List SO := List.rec (motive := fun _ => List SO) H (fun _ _ _ => app H (maskN m N)) N
def drNews (v : SV) (news : List SO) (p : DPos) (dst : Option Tmp) (T : List SV) (N : List (Nat × SO)) (next : List SV → List (Nat × SO) → Tree) : Tree :=
  match news with
  | [] => next (putT T dst v) N
  | [e] => next (putT T dst v) (app N [(p.i, e)])
  | _ => .stuck 431
def drSets (v : SV) (sets : List (Nat × SO)) (news : List SO) (x : DCtx) (p : DPos) (dst : Option Tmp) (T : List SV) (N : List (Nat × SO)) : Tree :=
  match news with
  | [] => boolC p.last (optC x.mL (.stuck 435) fun m => boolC (Nat.beq m p.m) (boolC (allN (fun q => hidN x.H q.1) sets) (x.fin (putT T dst v) (mapN (fun p => p.2) N) sets) (.stuck 436)) (.stuck 437)) (.stuck 432)
  | _ => .stuck 438
def drVal (v : SV) (sets : List (Nat × SO)) (news : List SO) (x : DCtx) (p : DPos) (dst : Option Tmp) (T : List SV) (N : List (Nat × SO)) (next : List SV → List (Nat × SO) → Tree) : Tree :=
  match sets with
  | [] => drNews v news p dst T N next
  | _ => drSets v sets news x p dst T N
def drEnter (f : FuncId) (args : List SV) (x : DCtx) (p : DPos) (dst : Option Tmp) (T : List SV) (N : List (Nat × SO)) (next : List SV → List (Nat × SO) → Tree) : Tree :=
  match x.c.sums f with
  | some s => (s args (seenH (x.atI p.i p.last) p.m N) (Nat.add (lenN x.H) (lenN N))).treeD fun r => drVal r.v r.sets r.news x p dst T N next
  | none => .stuck 433
def drRes (r : OpRes) : DCtx → DPos → Option Tmp → List SV → List (Nat × SO) → (List SV → List (Nat × SO) → Tree) → Tree :=
  OpRes.rec (motive := fun _ => DCtx → DPos → Option Tmp → List SV → List (Nat × SO) → (List SV → List (Nat × SO) → Tree) → Tree) drVal drEnter (fun _ _ _ _ _ _ _ _ => .stuck 434) (fun _ _ _ _ _ _ _ => .stuck 434) (fun _ _ _ _ _ _ _ => .stuck 434) (fun v _ => drVal v [] []) r
def drOp (o : Oper) (x : DCtx) (p : DPos) (T : List SV) (N : List (Nat × SO)) (next : List SV → List (Nat × SO) → Tree) : Tree :=
  wantT o.guard x.os T (fun T' => (opS x.c.P (evS x.c.glob T') (seenH (x.atI p.i p.last) p.m N) (Nat.add (lenN x.H) (lenN N)) o).treeD fun r => drRes r x p o.dst T' N next) (next (putT T o.dst undefS) N)
def headM (ms : List Nat) : Nat := List.rec (motive := fun _ => Nat) 0 (fun m _ _ => m) ms
def tailM (ms : List Nat) : List Nat := List.rec (motive := fun _ => List Nat) [] (fun _ r _ => r) ms
def drawP (ops : List Oper) (x : DCtx) : List Nat → Nat → List SV → List (Nat × SO) → Tree :=
  List.rec (motive := fun _ => List Nat → Nat → List SV → List (Nat × SO) → Tree) (fun _ _ T N => x.fin T (mapN (fun p => p.2) N) []) (fun o r ih ms i T N => drOp o x ⟨i, headM ms, List.rec (motive := fun _ => Bool) true (fun _ _ _ => false) r⟩ T N (ih (tailM ms) (Nat.succ i))) ops
def drawOK (os : Array Oper) (ops : List Oper) (ms : List Nat) (s : Nat) : Bool :=
  boolC (edgesAll ops 0) (boolC (headOK os (takeN ops s) (takeN ops s) ms 0) (tailOK (dropN ms s) s) false) false
def isStore (o : Oper) : Bool := match o.op with | .store .. => true | _ => false
/-- what the last operation ahead of the tail comes behind, where it is a store -/
def lastM (ops : List Oper) (ms : List Nat) (s : Nat) : Option Nat := optC (nth ops (Nat.pred s)) none fun o => boolC (isStore o) (nth ms (Nat.pred s)) none
def drawS (os : Array Oper) (s : Nat) (ms : List Nat) : StepF := fun k fr rest c H go =>
  boolC (drawOK os os.toList ms s)
    (drawP (takeN os.toList s) ⟨c, os, H, fun T N sets => go ⟨⟨fr.fn, T, .ops os (dropN os.toList s) :: k, fr.defers, fr.roundOf⟩ :: rest, applyH H sets N⟩, lastM os.toList ms s⟩ ms 0 fr.tmps [])
    (.stuck 430)
/- A region whose head holds appends: the operations that may turn or lay entries come one behind another; these are taken at the heap as it is in the text's order, and so is what comes behind or ahead of each of them; the others see only entries that stay. -/
def intT (P : Program) (t : TypeId) : Bool := optC (P.underlying t) false fun d => match d with | .int _ => true | _ => false
def movesB (b : Builtin) : Bool := match b with | .len => false | .min => false | _ => true
def moves (P : Program) (o : Oper) : Bool :=
  match o.op with
  | .move _ => false | .assign _ => false | .pick .. => false | .build .. => false | .load .. => false | .nilCheck _ => false | .binOp .. => false | .unOp .. => false | .sliceToArrayPointer .. => false | .makeInterface .. => false
  | .makeFunc .. => false | .slice .. => false | .fieldAddr .. => false | .field .. => false | .indexAddr .. => false | .index .. => false | .extract .. => false
  | .convert s d _ => boolC (intT P s) (boolC (intT P d) false true) true
  | .call c => match c.callee with | .builtin b => movesB b | _ => true
  | _ => true
/-- does number i (behind m) come behind or ahead of each that moves? -/
def cmpOK (P : Program) (i m : Nat) (ops : List Oper) : List Nat → Nat → Bool :=
  List.rec (motive := fun _ => List Nat → Nat → Bool) (fun _ _ => true)
    (fun o _ ih ms j => boolC (boolC (moves P o) (boolC (Nat.beq j i) true (boolC (Nat.blt j i) (bitN m j) (bitN (headM ms) i))) true) (ih (tailM ms) (Nat.succ j)) false) ops
structure CCtx where
  c : Cfg
  os : Array Oper
  H : List SO
  hd : List Oper
  ms : List Nat
  fin : List SV → List SO → Tree
/-- an entry that is to stay -/
def visN (H : List SO) (n : Nat) : Bool := optC (nth H n) false fun e => boolC (hiddenE e) false true
def chNo (v : SV) (sets : List (Nat × SO)) (news : List SO) (dst : Option Tmp) (T : List SV) (H : List SO) (next : List SV → List SO → Tree) : Tree :=
  match sets, news with
  | [], [] => next (putT T dst v) H
  | _, _ => .stuck 443
def chVal (v : SV) (sets : List (Nat × SO)) (news : List SO) (mv : Bool) (x : CCtx) (dst : Option Tmp) (T : List SV) (H : List SO) (next : List SV → List SO → Tree) : Tree :=
  boolC mv (boolC (allN (fun q => boolC (visN x.H q.1) false true) sets) (next (putT T dst v) (applyH H sets news)) (.stuck 442)) (chNo v sets news dst T H next)
def chEnter (f : FuncId) (args : List SV) (mv : Bool) (x : CCtx) (G : List SO) (dst : Option Tmp) (T : List SV) (H : List SO) (next : List SV → List SO → Tree) : Tree :=
  match x.c.sums f with
  | some s => (s args G (lenN H)).treeD fun r => chVal r.v r.sets r.news mv x dst T H next
  | none => .stuck 433
def chRes (r : OpRes) : Bool → CCtx → List SO → Option Tmp → List SV → List SO → (List SV → List SO → Tree) → Tree :=
  OpRes.rec (motive := fun _ => Bool → CCtx → List SO → Option Tmp → List SV → List SO → (List SV → List SO → Tree) → Tree) (fun v sets news mv x _ => chVal v sets news mv x) chEnter (fun _ _ _ _ _ _ _ _ _ => .stuck 434) (fun _ _ _ _ _ _ _ _ => .stuck 434) (fun _ _ _ _ _ _ _ _ => .stuck 434) (fun v _ _ _ _ dst T H next => next (putT T dst v) H) r
def chOpG (G : List SO) (mv : Bool) (o : Oper) (x : CCtx) (T : List SV) (H : List SO) (next : List SV → List SO → Tree) : Tree :=
  wantT o.guard x.os T (fun T' => (opS x.c.P (evS x.c.glob T') G (lenN H) o).treeD fun r => chRes r mv x G o.dst T' H next) (next (putT T o.dst undefS) H)
def chOp (o : Oper) (x : CCtx) (i m : Nat) (T : List SV) (H : List SO) (next : List SV → List SO → Tree) : Tree :=
  boolC (cmpOK x.c.P i m x.hd x.ms 0) (chOpG H (moves x.c.P o) o x T H next) (boolC (moves x.c.P o) (.stuck 440) (chOpG (mapN hideE x.H) false o x T H next))
def chP (ops : List Oper) (x : CCtx) : List Nat → Nat → List SV → List SO → Tree :=
  List.rec (motive := fun _ => List Nat → Nat → List SV → List SO → Tree) (fun _ _ T H => x.fin T H) (fun o _ ih ms i T H => chOp o x i (headM ms) T H (ih (tailM ms) (Nat.succ i))) ops
def chainS (os : Array Oper) (s : Nat) (ms : List Nat) : StepF := fun k fr rest c H go =>
  boolC (drawOK os os.toList ms s)
    (chP (takeN os.toList s) ⟨c, os, H, takeN os.toList s, ms, fun T H' => go ⟨⟨fr.fn, T, .ops os (dropN os.toList s) :: k, fr.defers, fr.roundOf⟩ :: rest, H'⟩⟩ ms 0 fr.tmps H)
    (.stuck 430)
def isAppend (o : Oper) : Bool := match o.op with | .call c => (match c.callee with | .builtin b => (match b with | .append => true | _ => false) | _ => false) | _ => false
def anyApp (ops : List Oper) : Bool := List.rec (motive := fun _ => Bool) false (fun o _ ih => boolC (isAppend o) true ih) ops
def drawB (os : Array Oper) (s : Nat) (ms : List Nat) : StepF := boolC (anyApp (takeN os.toList s)) (chainS os s ms) (drawS os s ms)
def drawT (os : Array Oper) : StepF := drawB os (headLen (masks os.toList []) 0) (masks os.toList [])
def regionT (draw : Bool) (os : Array Oper) : StepF := boolC draw (drawT os) (textT os)
def rangeFT (f : Operand) (ps : Array Tmp) (a b : Code) : StepF := fun k fr rest c H go => rangeT c f ps a b fr k rest H go
def noT : StepF := fun _ _ _ _ _ _ => .stuck 419
def codeT (x : Code) : StepF :=
  Code.rec (motive := fun _ => StepF) popT (fun _ os draw => regionT draw os) (fun a b _ _ => seqT a b) (fun x a b _ _ => condT x a b) (fun id body _ => blockT id body) (fun body _ => loopT body)
    (fun f ps a b _ _ => rangeFT f ps a b) (fun id => exitT id) (fun body _ => scopeT body) (fun _ => popT) (fun _ => noT) retT (fun _ => noT) x
def opsT (os : Array Oper) (l : List Oper) : StepF := List.rec (motive := fun _ => StepF) popT (fun o l _ => opT o l os) l
def beginT : StepF := fun k fr rest _ H go =>
  match fr.roundOf with
  | some nm => match loopOf H nm with
    | some (.ready, p, f, T, ps, a, b, d) => go ⟨{ fr with todo := k } :: rest, setN H nm (.loop .busy p f T ps a b d)⟩
    | _ => .stuck 421
  | none => .stuck 422
def endRFT (nm : Nat) : StepF := fun k fr rest _ H go =>
  match loopOf H nm with
  | some (st, p, f, T, ps, a, b, d) => match st with
    | .busy => .stuck 423
    | _ => go ⟨{ fr with todo := match p with | some j => .code j :: k | none => k } :: rest, setN H nm (.loop .exhausted p f T ps a b d)⟩
  | none => .stuck 424
def itemT (x : SItem) : StepF := SItem.rec (motive := fun _ => StepF) codeT (fun _ => popT) loopT (fun _ => popT) opsT (fun _ => noT) endRFT beginT x
def todoT (t : List SItem) : SF → List SF → Cfg → List SO → (SS → Tree) → Tree :=
  List.rec (motive := fun _ => SF → List SF → Cfg → List SO → (SS → Tree) → Tree) (fun fr rest c H go => returnT c.P fr rest H go) (fun x k _ => itemT x k) t
def framesT (frs : List SF) : Cfg → List SO → (SS → Tree) → Tree :=
  List.rec (motive := fun _ => Cfg → List SO → (SS → Tree) → Tree) (fun _ _ _ => .stuck 420) (fun fr rest _ => todoT fr.todo fr rest) frs
def headLoop (t : List SItem) (b : Bool) : Bool := List.rec (motive := fun _ => Bool) false (fun x _ _ => SItem.rec (motive := fun _ => Bool) (fun _ => false) (fun _ => false) (fun _ => b) (fun _ => false) (fun _ _ => false) (fun _ => false) (fun _ => false) false x) t
def stopN (n : Nat) (frs : List SF) : Bool := List.rec (motive := fun _ => Bool) false (fun fr _ _ => headLoop fr.todo (Nat.beq (lenN frs) n)) frs
def stopS (c : Cfg) (s : SS) : Bool := optC c.stopAt false fun n => stopN n s.frames
/-- ONE STEP -/
def stepT (c : Cfg) (s : SS) (go : SS → Tree) : Tree := framesT s.frames c s.heap go
def simS (c : Cfg) (s : SS) (ih : SS → Tree) (b : Bool) : Tree := boolC b (.stop s) (stepT c s ih)
def sim (c : Cfg) (n : Nat) : SS → Tree :=
  Nat.rec (motive := fun _ => SS → Tree) (fun s => .stop s) (fun _ ih s => simS c s ih (stopS c s)) n
/-- the first step is taken wherever it stands -/
def sim1 (c : Cfg) (n : Nat) (s : SS) : Tree := stepT c s (sim c n)

end
end Go.Sim
