/-
  The symbolic simulator, second part: what one operation does.
-/
import Derived.Test.YtdnaaeagllejjaaEng1
namespace Go.Sim
noncomputable section
variable {α : Type}

/- Types. -/
def TypeDesc.asArr {β : Type} (d : TypeDesc) (e : β) (f : Nat → TypeId → β) : β :=
  TypeDesc.rec (motive := fun _ => β) e e (fun _ => e) (fun _ => e) (fun _ => e) e e (fun _ => e) (fun _ => e) (fun n t => f n t) (fun _ _ => e) (fun _ _ => e) (fun _ => e) (fun _ _ _ => e) (fun _ => e) (fun _ => e) (fun _ _ => e) d
def TypeDesc.asSl {β : Type} (d : TypeDesc) (e : β) (f : TypeId → β) : β :=
  TypeDesc.rec (motive := fun _ => β) e e (fun _ => e) (fun _ => e) (fun _ => e) e e (fun _ => e) (fun t => f t) (fun _ _ => e) (fun _ _ => e) (fun _ _ => e) (fun _ => e) (fun _ _ _ => e) (fun _ => e) (fun _ => e) (fun _ _ => e) d
def TypeDesc.asSt {β : Type} (d : TypeDesc) (e : β) (f : Array Field → β) : β :=
  TypeDesc.rec (motive := fun _ => β) e e (fun _ => e) (fun _ => e) (fun _ => e) e e (fun _ => e) (fun _ => e) (fun _ _ => e) (fun _ _ => e) (fun _ _ => e) (fun l => f l) (fun _ _ _ => e) (fun _ => e) (fun _ => e) (fun _ _ => e) d
def isAggD (d : TypeDesc) : Bool :=
  TypeDesc.rec (motive := fun _ => Bool) false false (fun _ => false) (fun _ => false) (fun _ => false) false false (fun _ => false) (fun _ => false) (fun _ _ => true) (fun _ _ => false) (fun _ _ => false) (fun _ => true) (fun _ _ _ => false) (fun _ => false) (fun _ => false) (fun _ _ => false) d

/- Memory. -/
/-- k cells from place i on -/
def rdLst (l : List SV) (i : Nat) (k : Nat) (f : List SV → R α) : R α := boolC (Nat.ble (Nat.add i k) (lenN l)) (f (takeN (dropN l i) k)) (.stuck 200)
def rdFn (g : Nat → SV) (n : Nat) (i : SN) (k : Nat) (f : List SV → R α) : R α := .need (i.den + k ≤ n) (f (mapN (fun j => g (i.den + j)) (fromN k 0)))
def rdCells (c : Cells) (i : SN) (k : Nat) (f : List SV → R α) : R α :=
  Cells.rec (motive := fun _ => R α) (fun l => i.asLit (.stuck 201) fun i => rdLst l i k f) (fun g n => rdFn g n i k f) c
/-- one cell -/
def rdFn1 (g : Nat → SV) (n : Nat) (i : SN) (f : SV → R α) : R α := SN.rec (motive := fun _ => R α) (fun i => .need (i < n) (f (g i))) (fun i => .need (i < n) (f (g i))) (fun o x => .need (o + x.toNat < n) (f (g (o + x.toNat)))) i
/-- bytes -/
def lit8 (n : Int) : Option (BitVec 8) := intC n (fun m => boolC (Nat.blt m 256) (some (BitVec.ofNat 8 m)) none) fun _ => none
def si8 (n : SI) : Option (BitVec 8) := SI.rec (motive := fun _ => Option (BitVec 8)) lit8 (fun _ => none) (fun x => some x) (fun _ => none) (fun _ => none) n
def unb1 (v : SV) : Option (BitVec 8) := v.asInt none fun k n => boolC (eqK k .u8) (si8 n) none
def unb (l : List SV) : Option (List (BitVec 8)) := List.rec (motive := fun _ => Option (List (BitVec 8))) (some []) (fun v _ ih => optC (unb1 v) none fun x => optC ih none fun xs => some (x :: xs)) l
def byteAt (l : List (BitVec 8)) (i : Nat) : BitVec 8 := (l[i]?).getD 0#8
/-- a row of bytes, as a function of the place -/
def byteF (X : Nat → BitVec 8) : Nat → SV := fun i => .int .u8 (.b8 (X i))
def byteOf (v : SV) : BitVec 8 := SV.asInt v 0#8 fun _ n => SI.rec (motive := fun _ => BitVec 8) (fun n => BitVec.ofInt 8 n) (fun _ => 0#8) (fun x => x) (fun _ => 0#8) (fun _ => 0#8) n
def IsB (g : Nat → SV) : Prop := ∀ i, ∃ x, g i = .int .u8 (.b8 x)
/-- n bytes from a place on -/
def viewC (c : Cells) (off n : Nat) (f : (Nat → BitVec 8) → R α) : R α :=
  Cells.rec (motive := fun _ => R α) (fun l => optC (unb l) (.stuck 770) fun xs => .need (off + n ≤ lenN xs) (f fun i => byteAt xs (off + i))) (fun g m => .need (off + n ≤ m ∧ IsB g) (f fun i => byteOf (g (off + i)))) c
/-- the one behind the other -/
def catB (X : Nat → BitVec 8) (l : Nat) (Y : Nat → BitVec 8) : Nat → BitVec 8 := fun j => if j < l then X j else Y (j - l)
/-- one cell of a list of bytes, at a place that is not known -/
def rdSym (l : List SV) (i : Nat) (f : SV → R α) : R α := optC (unb l) (.stuck 203) fun xs => .need (i < lenN xs) (f (.int .u8 (.b8 (byteAt xs i))))
def rdByt (l : List SV) (o : Nat) (x : BitVec 8) (f : SV → R α) : R α := optC (unb l) (.stuck 203) fun xs => boolC (Nat.ble (o + 256) (lenN xs)) (f (.int .u8 (.b8 (byteAt xs (o + x.toNat))))) (.need (o + x.toNat < lenN xs) (f (.int .u8 (.b8 (byteAt xs (o + x.toNat))))))
def rdCell (c : Cells) (i : SN) (f : SV → R α) : R α :=
  Cells.rec (motive := fun _ => R α) (fun l => SN.rec (motive := fun _ => R α) (fun i => R.opt 202 (nth l i) f) (fun i => rdSym l i f) (fun o x => rdByt l o x f) i) (fun g n => rdFn1 g n i f) c
/-- the values v written from place i on -/
def wrLst (l : List SV) (i : Nat) (v : List SV) (f : Cells → R α) : R α := boolC (Nat.ble (Nat.add i (lenN v)) (lenN l)) (f (.lst (overN l i v))) (.stuck 204)
def wrFn (g : Nat → SV) (n : Nat) (i : SN) (v : List SV) (f : Cells → R α) : R α :=
  match v with
  | [x] => .need (i.den < n) (f (.fn (fun j => if j = i.den then x else g j) n))
  | v => .need (i.den + lenN v ≤ n) (f (.fn (fun j => if i.den ≤ j then (nth v (j - i.den)).getD (g j) else g j) n))
/-- bytes laid over bytes -/
def putB (o n : Nat) (Y : Nat → BitVec 8) (xs : List (BitVec 8)) : Nat → List (BitVec 8) := List.rec (motive := fun _ => Nat → List (BitVec 8)) (fun _ => []) (fun x _ ih k => (if o ≤ k ∧ k < o + n then Y (k - o) else x) :: ih (Nat.succ k)) xs
def putC (c : Cells) (o n : Nat) (Y : Nat → BitVec 8) (f : Cells → R α) : R α :=
  Cells.rec (motive := fun _ => R α) (fun l => optC (unb l) (.stuck 774) fun xs => .need (o + n ≤ lenN xs) (f (.lst (mapN (fun x => .int .u8 (.b8 x)) (putB o n Y xs 0)))))
    (fun g m => .need (o + n ≤ m ∧ IsB g) (f (.fn (byteF (fun p => if o ≤ p ∧ p < o + n then Y (p - o) else byteOf (g p))) m))) c
def wrSym1 (l : List SV) (i : Nat) (x : SV) (f : Cells → R α) : R α := optC (unb1 x) (.stuck 205) fun b => putC (.lst l) i 1 (fun _ => b) f
/-- one byte, at a place that is not known -/
def wrSym (l : List SV) (i : Nat) (v : List SV) (f : Cells → R α) : R α := List.rec (motive := fun _ => R α) (.stuck 205) (fun x r _ => List.rec (motive := fun _ => R α) (wrSym1 l i x f) (fun _ _ _ => .stuck 205) r) v
/-- one value at every place -/
def sameF (z : SV) : Nat → SV := optC (unb1 z) (fun _ => z) fun x => byteF fun _ => x
def wrCells (c : Cells) (i : SN) (v : List SV) (f : Cells → R α) : R α :=
  Cells.rec (motive := fun _ => R α) (fun l => i.asLit (wrSym l i.den v f) fun i => wrLst l i v f) (fun g n => wrFn g n i v f) c

/-- what an operation comes to: a value, with entries that turn and entries that are new (they bear the names from 'base' on); a call; a round of a loop; a mark among the deferred calls -/
inductive OpRes where
  | val (v : SV) (sets : List (Nat × SO)) (news : List SO)
  | enter (f : FuncId) (args : List SV)
  | round (nm : Nat) (args : List SV)
  | defer (d : SD)
  | panic (v : SV)
  /-- a value; an entry of one's own is marked, and stays as it is -/
  | touch (v : SV) (nm : Nat)
def vR (v : SV) : R OpRes := .ok (.val v [] [])

/-- the place that an address leads to -/
def entry (H : List SO) (a : SA) (f : SO → R α) : R α := R.opt 206 (nth H a.nm) f
def rdNO (o : SO) (i : SN) (k : Nat) (f : List SV → R α) : R α :=
  SO.rec (motive := fun _ => R α) (fun c _ _ => rdCells c i k f) (fun c => rdCells c i k f) (fun _ _ _ _ _ _ _ _ => .stuck 207) (fun _ => .stuck 207) (.stuck 207) o
def loadN (H : List SO) (a : SA) (k : Nat) (f : List SV → R α) : R α := entry H a fun o => rdNO o a.off k f
def rd1O (o : SO) (i : SN) (f : SV → R α) : R α :=
  SO.rec (motive := fun _ => R α) (fun c _ _ => rdCell c i f) (fun c => rdCell c i f) (fun _ _ _ _ _ _ _ _ => .stuck 208) (fun _ => .stuck 208) (.stuck 208) o
def load1 (H : List SO) (a : SA) (f : SV → R α) : R α := entry H a fun o => rd1O o a.off f
def loadB (P : Program) (H : List SO) (t : TypeId) (a : SA) (f : SV → R α) (b : Bool) : R α :=
  boolC b (R.opt 210 (P.info? t) fun i => loadN H a i.size fun l => f (.agg l)) (load1 H a f)
def loadT (P : Program) (H : List SO) (t : TypeId) (a : SA) (f : SV → R α) : R α :=
  R.opt 209 (P.underlying t) fun d => loadB P H t a f (isAggD d)
def allN (f : α → Bool) (l : List α) : Bool := List.rec (motive := fun _ => Bool) true (fun a _ ih => boolC (f a) ih false) l
def wrO (o : SO) (a : SA) (l : List SV) : R OpRes :=
  SO.rec (motive := fun _ => R OpRes) (fun c w e => wrCells c a.off l fun c => .ok (.val undefS [(a.nm, .own c w e)] [])) (fun _ => .stuck 212) (fun _ _ _ _ _ _ _ _ => .stuck 212) (fun _ => .stuck 212) (.stuck 212) o
def storeL (H : List SO) (a : SA) (l : List SV) (n : Nat) : R OpRes :=
  boolC (Nat.beq (lenN l) n) (boolC (allN scalar l) (entry H a fun o => wrO o a l) (.stuck 213)) (.stuck 214)
def storeT (P : Program) (H : List SO) (t : TypeId) (a : SA) (v : SV) : R OpRes :=
  R.opt 211 (P.info? t) fun i => storeL H a (cellsS v) i.size

/- The parts of structs and arrays. -/
def zeroS (P : Program) (t : TypeId) : Option (List SV) := ((P.info? t).bind (·.zero)).map fun v => mapN constC v.cells.toList
def fillS (place : Nat → Option (Nat × Nat)) (cells : List SV) : List (Nat × SV) → Option (List SV)
  | [] => some cells
  | (i, v) :: rest =>
    match place i with
    | none => none
    | some (off, size) => if lenN (cellsS v) ≠ size ∨ off + lenN (cellsS v) > lenN cells then none else fillS place (overN cells off (cellsS v)) rest
def partS (P : Program) (t : TypeId) (l : List SV) (off : Nat) (f : SV → R α) : R α :=
  R.opt 215 (P.underlying t) fun d =>
    if isAggD d then R.opt 216 (P.info? t) fun i => f (.agg (takeN (dropN l off) i.size))
    else R.opt 217 (nth l off) f
def placesS (P : Program) : List Field → Option (List (Nat × Nat))
  | [] => some []
  | f :: r => (P.info? f.type).bind fun i => (placesS P r).map fun l => (f.offset, i.size) :: l
def partsS (ev : Operand → SV) (ps : Array (Nat × Operand)) : List (Nat × SV) := mapN (fun p => (p.1, ev p.2)) ps.toList
def buildT (P : Program) (t : TypeId) (parts : List (Nat × SV)) : R OpRes :=
  R.opt 218 (P.underlying t) fun
    | .struct fields =>
      R.opt 219 (zeroS P t) fun zero => R.opt 220 (placesS P fields.toList) fun places =>
        R.opt 221 (fillS (nth places) zero parts) fun cells => vR (.agg cells)
    | .array _ elem =>
      R.opt 219 (zeroS P t) fun zero => R.opt 220 (P.info? elem) fun i =>
        R.opt 221 (fillS (fun j => some (j * i.size, i.size)) zero parts) fun cells => vR (.agg cells)
    | _ => .stuck 222
/-- n times the cells of a zero value -/
def manyN (z : List SV) (n : Nat) : List SV := Nat.rec (motive := fun _ => List SV) [] (fun _ ih => app z ih) n
def buildSliceT (P : Program) (base : Nat) (t : TypeId) (len : Nat) (parts : List (Nat × SV)) : R OpRes :=
  R.opt 223 (P.underlying t) fun
    | .slice elem => R.opt 224 (P.info? elem) fun i => R.opt 225 (zeroS P elem) fun zero =>
      if len * i.size > 2 ^ 24 then .stuck 226 else
      if lenN zero ≠ i.size then .stuck 227 else
      R.opt 228 (fillS (fun j => some (j * i.size, i.size)) (manyN zero len) parts) fun cells =>
        .ok (.val (.slice ⟨base, .lit 0⟩ (.lit len) (.lit len)) [] [.own (.lst cells) true elem])
    | _ => .stuck 229
def makeSliceT (P : Program) (base : Nat) (t : TypeId) (len cap : SV) : R OpRes :=
  R.opt 230 (P.underlying t) fun
    | .slice elem => R.opt 231 (P.info? elem) fun i => R.opt 232 (zeroS P elem) fun zero =>
      match len, cap with
      | .int .i64 (.lit l), .int .i64 (.lit c) =>
        if 0 ≤ l ∧ l ≤ c ∧ c < 1048577 ∧ i.bytes < 65537 then
          if lenN zero ≠ i.size then .stuck 233 else
          .ok (.val (.slice ⟨base, .lit 0⟩ (.lit l.toNat) (.lit c.toNat)) [] [.own (.lst (manyN zero c.toNat)) true elem])
        else .stuck 234
      | .int .i64 l, .int .i64 c =>
        match zero with
        | [z] => .need (0 ≤ l.den ∧ l.den ≤ c.den ∧ c.den * i.bytes ≤ 2 ^ 48 ∧ c.den ≤ 9223372036854775807 ∧ i.size = 1)
            (.ok (.val (.slice ⟨base, .lit 0⟩ l.toN (.sym c.den.toNat)) [] [.own (.fn (sameF z) c.den.toNat) true elem]))
        | _ => .stuck 235
      | _, _ => .stuck 236
    | _ => .stuck 237

/- Addresses. -/
def ptrS (v : SV) (f : SA → R α) : R α := v.asPtr (.stuck 238) f
def SA.plus (a : SA) (n : SN) : SA := ⟨a.nm, a.off.add n⟩
def fieldAddrT (P : Program) (s : TypeId) (x : SV) (field : Nat) : R OpRes :=
  R.opt 239 (P.underlying s) fun d => TypeDesc.asSt d (.stuck 243) fun fields =>
    R.opt 240 (nth fields.toList field) fun f => R.opt 241 (P.info? f.type) fun i =>
      boolC (Nat.beq i.size 0) (.stuck 242) (ptrS x fun a => vR (.ptr (a.plus (.lit f.offset))))
def ixArr (P : Program) (x : SV) (i : SI) (n : Nat) (elem : TypeId) : R OpRes := ptrS x fun a => R.opt 245 (P.info? elem) fun e => idxS i (.lit n) fun j => vR (.ptr (a.plus (j.mul e.size)))
def ixTail (P : Program) (a : SA) (n len : SN) (i : SI) (elem : TypeId) : R OpRes := R.opt 246 (P.info? elem) fun e => idxS i len fun j => vR (.ptr ((a.plus n).plus (j.mul e.size)))
def ixSl1 (P : Program) (x : SV) (i : SI) (elem : TypeId) : R OpRes := x.asSlice (.stuck 247) fun a len _ => R.opt 246 (P.info? elem) fun e => idxS i len fun j => vR (.ptr (a.plus (j.mul e.size)))
def ixSl (P : Program) (x : SV) (i : SI) (elem : TypeId) : R OpRes :=
  match x with
  | .tail a n len _ => ixTail P a n len i elem
  | x => ixSl1 P x i elem
def indexAddrT (P : Program) (t : TypeId) (x index : SV) : R OpRes :=
  R.opt 244 (P.underlying t) fun d => index.asInt (.stuck 248) fun _ i => TypeDesc.asArr d (TypeDesc.asSl d (.stuck 247) (ixSl P x i)) (ixArr P x i)
def indexT (P : Program) (t : TypeId) (x index : SV) : R OpRes :=
  R.opt 249 (P.underlying t) fun d =>
    match index with
    | .int _ i =>
      match d, x with
      | .array n elem, .agg l => R.opt 250 (P.info? elem) fun e => idxS i (.lit n) fun
        | .lit j => partS P elem l (j * e.size) fun v => vR v
        | _ => .stuck 251
      | .string, .str s =>
        match s, i with
        | .lit s, .lit i => if 0 ≤ i then R.opt 252 (nth s.data.toList i.toNat) fun b => vR (.int .u8 (.lit (b.toNat : Int))) else .stuck 253
        | .bytes l, .lit i => if 0 ≤ i then R.opt 252 (nth l i.toNat) fun
            | .b8 b => vR (.int .u8 (.b8 b))
            | b => .need (0 ≤ b.den ∧ b.den < 256) (vR (.int .u8 b))
          else .stuck 253
        | s, i => .need (0 ≤ i.den ∧ i.den < (s.den.size : Int)) (vR (.int .u8 (.b8 (s.den.data.getD i.den.toNat 0).toBitVec)))
      | _, _ => .stuck 254
    | _ => .stuck 255
/-- a slice's bounds: what 'sliceBounds' comes to -/
def boundS (v : Option SV) (y : SN) (d : SN) (f : SN → R α) : R α :=
  match v with
  | none => f d
  | some (.int _ i) => bndS i y f
  | some _ => .stuck 256
/-- the known capacity of a slice -/
def capOf : SC → Option SN
  | .lit n => some (.lit n)
  | .sym n => some (.sym n)
  | .rest _ _ => none
def SN.toC : SN → SC
  | .lit n => .lit n
  | .sym n => .sym n
  | .byt o x => .sym (o + x.toNat)
def SC.less : SC → SN → Option SC
  | .lit c, .lit n => some (.lit (c - n))
  | .lit c, .sym n => some (.sym (c - n))
  | .lit c, .byt o x => some (.sym (c - (o + x.toNat)))
  | .sym c, n => some (.sym (c - n.den))
  | .rest nm k, .lit n => some (.rest nm (k + n))
  | .rest nm k, .sym n => some (.rest nm (k + n))
  | .rest _ _, .byt _ _ => none
/-- 'x[lo:hi:mx]' bears a high bound -/
def mxOk (hi mx : Option SV) : Bool := optC mx true fun _ => optC hi false fun _ => true
/-- a slice's place: moved, if it has room -/
def slAt (a : SA) (n h : SN) (c : SC) (same : Bool) : R OpRes := .fork same (vR (.slice a h c)) (vR (.slice (a.plus n) h c))
def slArr (n : Nat) (a : SA) (e : TypeInfo) (lo hi mx : Option SV) : R OpRes :=
  boundS mx (.lit n) (.lit n) fun m => boundS hi m (.lit n) fun h => boundS lo h (.lit 0) fun l =>
    match m, l with
    | .lit m', .lit l' => vR (.slice (if m' = l' then a else a.plus (.lit (l' * e.size))) (h.sub l) (.lit (m' - l')))
    | m, .lit 0 => vR (.slice a h m.toC)
    | m, l => slAt a (l.mul e.size) (h.sub l) (.sym (m.den - l.den)) (decide (m.den = l.den))
/-- a bound that is at most the capacity -/
def sl3c (a : SA) (c : SN) (e : TypeInfo) (lo hi mx : Option SV) : R OpRes :=
  boundS mx c c fun m => boundS hi m m fun h => boundS lo h (.lit 0) fun l =>
    match m, l with
    | .lit m', .lit l' => vR (.slice (if m' = l' then a else a.plus (.lit (l' * e.size))) (h.sub l) (.lit (m' - l')))
    | m, .lit 0 => vR (.slice a h m.toC)
    | m, l => slAt a (l.mul e.size) (h.sub l) (.sym (m.den - l.den)) (decide (m.den = l.den))
def sl3 (a : SA) (len : SN) (cap : SC) (e : TypeInfo) (lo hi mx : Option SV) : R OpRes := optC (capOf cap) (sl3c a len e lo hi mx) fun c => sl3c a c e lo hi mx
/-- 'x[l:]' where the capacity is not known, or the numbers are not -/
def slEnd0 (a : SA) (len : SN) (size : Nat) (h l : SN) (c' : SC) : R OpRes :=
  l.asLit (vR (.tail a (l.mul size) (h.sub l) c')) fun x => len.asLit (vR (.tail a (l.mul size) (h.sub l) c')) fun y =>
    boolC (Nat.blt x y) (vR (.slice (a.plus (l.mul size)) (h.sub l) c')) (vR (.tail a (l.mul size) (h.sub l) c'))
/-- something is left: it has moved -/
def slEnd (a : SA) (len : SN) (size : Nat) (h l : SN) (c' : SC) : R OpRes := (h.sub l).asLit (slEnd0 a len size h l c') fun d => boolC (Nat.blt 0 d) (vR (.slice (a.plus (l.mul size)) (h.sub l) c')) (slEnd0 a len size h l c')
def sl2 (a : SA) (len : SN) (cap : SC) (e : TypeInfo) (lo hi : Option SV) : R OpRes :=
  boundS hi len len fun h => boundS lo h (.lit 0) fun l =>
    match l with
    | .lit 0 => vR (.slice a h cap)
    | l => match cap, l with
      | .lit c, .lit l' => vR (.slice (if c = l' then a else a.plus (.lit (l' * e.size))) (h.sub l) (.lit (c - l')))
      | cap, l => R.opt 263 (cap.less l) fun c' => slEnd a len e.size h l c'
def slStr (s : SStr) (lo hi : Option SV) : R OpRes :=
  match s with
  | .lit s => boundS hi (.lit s.size) (.lit s.size) fun h => boundS lo h (.lit 0) fun l =>
      match l, h with
      | .lit l, .lit h => vR (.str (.lit (s.extract l h)))
      | l, h => vR (.str (.sym (s.extract l.den h.den)))
  | .bytes b => boundS hi (.lit (lenN b)) (.lit (lenN b)) fun h => boundS lo h (.lit 0) fun l =>
      match l, h with
      | .lit l, .lit h => vR (.str (.bytes (takeN (dropN b l) (h - l))))
      | _, _ => .stuck 265
  | .sym s => boundS hi (.sym s.size) (.sym s.size) fun h => boundS lo h (.lit 0) fun l => vR (.str (.sym (s.extract l.den h.den)))
def sliceT (P : Program) (t : TypeId) (x : SV) (lo hi mx : Option SV) : R OpRes :=
  R.opt 257 (P.underlying t) fun d => boolC (mxOk hi mx)
    (match d, x with
    | .array n elem, .ptr a => R.opt 258 (P.info? elem) fun e => slArr n a e lo hi mx
    | .slice elem, .slice a len cap => R.opt 260 (P.info? elem) fun e => optC mx (sl2 a len cap e lo hi) fun _ => sl3 a len cap e lo hi mx
    | .slice elem, .tail a n len cap => .need (0 < len.den) (R.opt 260 (P.info? elem) fun e => optC mx (sl2 (a.plus n) len cap e lo hi) fun _ => sl3 (a.plus n) len cap e lo hi mx)
    | .slice elem, .nilSlice => R.opt 260 (P.info? elem) fun _ => boundS mx (.lit 0) (.lit 0) fun m => boundS hi m (.lit 0) fun h => boundS lo h (.lit 0) fun _ => vR .nilSlice
    | .string, .str s => optC mx (slStr s lo hi) fun _ => .stuck 264
    | _, _ => .stuck 266)
    (.stuck 262)

/- Strings and bytes. -/
def siOf : SV → Option SI
  | .int .u8 n => some n
  | _ => none
def silistOf (l : List SV) : Option (List SI) := List.rec (motive := fun _ => Option (List SI)) (some []) (fun a _ ih => match siOf a with | some n => ih.map (n :: ·) | none => none) l
/-- the integer of a cell, whatever it is -/
def SV.num : SV → Int
  | .int _ n => n.den
  | _ => 0
def strOfFn (f : Nat → SV) (off len : Nat) : ByteArray := ⟨((List.range len).map fun i => UInt8.ofNat (f (off + i)).num.toNat).toArray⟩
def isByte : SV → Prop
  | .int .u8 _ => True
  | _ => False
def toStrC (c : Cells) (off len : SN) : R OpRes :=
  match c with
  | .lst l => match off, len with
    | .lit o, .lit n =>
      if lenN (takeN (dropN l o) n) = n then R.opt 267 (silistOf (takeN (dropN l o) n)) fun b => vR (.str (.bytes b)) else .stuck 268
    | off, len => optC (unb l) (.stuck 269) fun xs => .need (off.den + len.den ≤ lenN xs) (vR (.str (.sym (strOfFn (byteF (byteAt xs)) off.den len.den))))
  | .fn f n => .need (off.den + len.den ≤ n ∧ ∀ i, i < n → isByte (f i)) (vR (.str (.sym (strOfFn f off.den len.den))))
def toStrO (e : SO) (off len : SN) : R OpRes :=
  match e with
  | .own c _ _ => toStrC c off len
  | .row c => toStrC c off len
  | _ => .stuck 270
def toStrT (H : List SO) (x : SV) : R OpRes :=
  match x with
  | .nilSlice => vR (.str (.lit .empty))
  | .slice a len _ => entry H a fun e => toStrO e a.off len
  | .tail a n len _ => entry H a fun e => toStrO e (a.off.add n) len
  | _ => .stuck 271
def bytesFn (s : ByteArray) : Nat → SV := fun i => .int .u8 (.b8 (s.data.getD i 0).toBitVec)
def toBytesL (base : Nat) (elem : TypeId) (s : SStr) : R OpRes :=
  match s with
  | .lit s => .ok (.val (.slice ⟨base, .lit 0⟩ (.lit s.size) (.rest base 0)) [] [.own (.lst (mapN (fun (b : UInt8) => .int .u8 (.lit (b.toNat : Int))) s.data.toList)) false elem])
  | .bytes l => .need (∀ i ∈ l, 0 ≤ i.den ∧ i.den < 256) (.ok (.val (.slice ⟨base, .lit 0⟩ (.lit (lenN l)) (.rest base 0)) [] [.own (.lst (mapN (fun i => .int .u8 i) l)) false elem]))
  | .sym s => .ok (.val (.slice ⟨base, .lit 0⟩ (.sym s.size) (.rest base 0)) [] [.own (.fn (bytesFn s) s.size) false elem])
def toBytesT (P : Program) (base : Nat) (elem : TypeId) (s : SStr) : R OpRes :=
  R.opt 279 (P.info? elem) fun i => boolC (Nat.beq i.size 1) (toBytesL base elem s) (.stuck 279)
/-- a slice of bytes from a slice of bytes -/
def sameT (P : Program) (H : List SO) (src dst e : TypeId) (a : SA) (l : SN) (c : SC) : R OpRes :=
  boolC (Nat.beq src dst) (R.opt 826 (P.underlying e) fun
    | .int .u8 => entry H a fun
      | .own _ _ _ => .ok (.touch (.slice a l c) a.nm)
      | _ => .stuck 827
    | _ => .stuck 828) (.stuck 829)
def convT (P : Program) (H : List SO) (base : Nat) (src dst : TypeId) (x : SV) : R OpRes :=
  R.opt 272 (P.underlying src) fun s => R.opt 273 (P.underlying dst) fun d =>
    match s, d, x with
    | .int _, .int k, .int _ n => vR (.int k (convI k n))
    | .string, .string, .str s => vR (.str s)
    | .string, .slice e, .str s => R.opt 274 (P.underlying e) fun
      | .int .u8 => toBytesT P base e s
      | _ => .stuck 275
    | .slice _, .slice e, .slice a l c => sameT P H src dst e a l c
    | .slice e, .string, x => R.opt 276 (P.underlying e) fun
      | .int .u8 => toStrT H x
      | _ => .stuck 277
    | _, _, _ => .stuck 278
def strEq (op : BinOp) (a b : SStr) : R OpRes :=
  match op with
  | .eql => match a, b with
    | .lit a, .lit b => vR (.bool (.lit (a.data.toList == b.data.toList)))
    | a, b => vR (.bool (.sym (decide (a.den = b.den))))
  | .neq => match a, b with
    | .lit a, .lit b => vR (.bool (.lit (!(a.data.toList == b.data.toList))))
    | a, b => vR (.bool (.sym (!decide (a.den = b.den))))
  | .lss => vR (.bool (.sym (Op.bytesLess a.den.data.toList b.den.data.toList)))
  | .add => match a, b with
    | .lit a, .lit b => if a.size + b.size ≤ 9223372036854775807 then vR (.str (.lit (a ++ b))) else .stuck 279
    | a, b => .need (a.den.size + b.den.size ≤ 9223372036854775807) (vR (.str (.sym (a.den ++ b.den))))
  | _ => .stuck 280
/-- pointers, slices and the like against nil; pointers of one name -/
def nilEq (x y : SV) : Option Bool :=
  match x, y with
  | .nilPtr, .nilPtr => some true
  | .ptr _, .nilPtr | .nilPtr, .ptr _ => some false
  | .nilFunc, .nilFunc => some true
  | .func _ _ _, .nilFunc | .nilFunc, .func _ _ _ => some false
  | .nilSlice, .nilSlice => some true
  | .slice _ _ _, .nilSlice | .nilSlice, .slice _ _ _ => some false
  | .tail _ _ _ _, .nilSlice | .nilSlice, .tail _ _ _ _ => some false
  | .nilMap, .nilMap => some true
  | .map _, .nilMap | .nilMap, .map _ => some false
  | _, _ => none
def isNilType : TypeDesc → SV → SV → Bool
  | .pointer _, .nilPtr, .nilPtr | .pointer _, .ptr _, .nilPtr | .pointer _, .nilPtr, .ptr _ => true
  | .func _ _ _, .nilFunc, .nilFunc | .func _ _ _, .func _ _ _, .nilFunc | .func _ _ _, .nilFunc, .func _ _ _ => true
  | .slice _, .nilSlice, .nilSlice | .slice _, .slice _ _ _, .nilSlice | .slice _, .nilSlice, .slice _ _ _ => true
  | .slice _, .tail _ _ _ _, .nilSlice | .slice _, .nilSlice, .tail _ _ _ _ => true
  | .map _ _, .nilMap, .nilMap | .map _ _, .map _, .nilMap | .map _ _, .nilMap, .map _ => true
  | _, _, _ => false
/-- two arrays or structs of integers, strings and bools, cell by cell -/
def cellEq : SV → SV → Option SB
  | .int _ (.lit a), .int _ (.lit b) => some (.lit (a == b))
  | .int _ a, .int _ b => some (.sym (a.den == b.den))
  | .bool (.lit a), .bool (.lit b) => some (.lit (a == b))
  | .bool a, .bool b => some (.sym (a.den == b.den))
  | .str (.lit a), .str (.lit b) => some (.lit (a.data.toList == b.data.toList))
  | .str a, .str b => some (.sym (decide (a.den = b.den)))
  | _, _ => none
def bnSh (op : BinOp) (k : IntKind) (a : SI) (_k' : IntKind) (b : SI) : R OpRes := (shiftS op k a b).bind fun n => vR (.int k n)
def bnDv (op : BinOp) (k : IntKind) (a : SI) (k' : IntKind) (b : SI) : R OpRes := boolC (eqK k k') ((divS op k a b).bind fun n => vR (.int k n)) (.stuck 281)
def bnAr (op : BinOp) (k : IntKind) (a : SI) (k' : IntKind) (b : SI) : R OpRes := boolC (eqK k k') ((arithS op k a b).bind fun n => vR (.int k n)) (.stuck 281)
def bnCm (op : BinOp) (k : IntKind) (a : SI) (k' : IntKind) (b : SI) : R OpRes := boolC (eqK k k') ((cmpS op a b).bind fun b => vR (.bool b)) (.stuck 281)
def bnInt (op : BinOp) : IntKind → SI → IntKind → SI → R OpRes :=
  BinOp.rec (motive := fun _ => IntKind → SI → IntKind → SI → R OpRes) (bnAr .add) (bnAr .sub) (bnAr .mul) (bnDv .quo) (bnDv .rem) (bnAr .and) (bnAr .or) (bnAr .xor) (bnSh .shl) (bnSh .shr) (bnAr .andNot) (bnCm .eql) (bnCm .neq) (bnCm .lss) (bnCm .leq) (bnCm .gtr) (bnCm .geq) op
def bnBool (P : Program) (op : BinOp) (t : TypeId) (a b : SB) : R OpRes :=
  R.opt 282 (P.underlying t) fun
    | .bool => match op with
      | .eql => match cellEq (.bool a) (.bool b) with | some b => vR (.bool b) | none => .stuck 283
      | .neq => match a, b with
        | .lit a, .lit b => vR (.bool (.lit (!(a == b))))
        | a, b => vR (.bool (.sym (!(a.den == b.den))))
      | _ => .stuck 284
    | _ => .stuck 285
def bnNil (P : Program) (op : BinOp) (t : TypeId) (x y : SV) : R OpRes :=
  R.opt 286 (P.underlying t) fun d =>
    match isNilType d x y with
    | true => R.opt 287 (nilEq x y) fun b => match op with
      | .eql => vR (.bool (.lit b))
      | .neq => vR (.bool (.lit (!b)))
      | _ => .stuck 288
    | false => .stuck 289
def bnRest (P : Program) (op : BinOp) (t : TypeId) (x y : SV) : R OpRes :=
  match x, y with
  | .str a, .str b => strEq op a b
  | .bool a, .bool b => bnBool P op t a b
  | x, y => bnNil P op t x y
def binT (P : Program) (op : BinOp) (t : TypeId) (x y : SV) : R OpRes :=
  x.asInt (bnRest P op t x y) fun k a => y.asInt (bnRest P op t x y) fun k' b => bnInt op k a k' b
def unT (op : UnOp) (x : SV) : R OpRes :=
  match op, x with
  | .not, .bool (.lit b) => vR (.bool (.lit (!b)))
  | .not, .bool b => vR (.bool (.sym (!b.den)))
  | .neg, .int k n => (arithS .sub k (.lit 0) n).bind fun n => vR (.int k n)
  | .xor, .int .u8 n => (arithS .xor .u8 (.lit 255) n).bind fun n => vR (.int .u8 n)
  | .xor, .int .u32 n => (arithS .xor .u32 (.lit 4294967295) n).bind fun n => vR (.int .u32 n)
  | .xor, .int .u64 n => (arithS .xor .u64 (.lit 18446744073709551615) n).bind fun n => vR (.int .u64 n)
  | _, _ => .stuck 290

/- append and copy -/
/-- the cells of what is appended or copied: of a slice whose cells are known one by one, or of a string -/
def srcCells (H : List SO) (size : Nat) (x : SV) (n : SN) (f : List SV → R α) : R α :=
  match x, n with
  | .nilSlice, _ => f []
  | .slice a _ _, .lit n => loadN H a (n * size) f
  | .tail a k _ _, .lit n => loadN H (a.plus k) (n * size) f
  | .str (.lit s), .lit n => boolC (Nat.beq size 1) (f (mapN (fun (b : UInt8) => .int .u8 (.lit (b.toNat : Int))) (takeN s.data.toList n))) (.stuck 291)
  | .str (.bytes l), .lit n => boolC (Nat.beq size 1) (.need (∀ i ∈ l, 0 ≤ i.den ∧ i.den < 256) (f (mapN (fun i => .int .u8 i) (takeN l n)))) (.stuck 291)
  | _, _ => .stuck 291
def lenS (x : SV) (f : SN → R α) : R α :=
  match x with
  | .nilSlice => f (.lit 0)
  | .slice _ n _ => f n
  | .tail _ _ n _ => f n
  | .str (.lit s) => f (.lit s.size)
  | .str (.bytes l) => f (.lit (lenN l))
  | .str (.sym s) => f (.sym s.size)
  | _ => .stuck 292
def fnSl (H : List SO) (a : SA) (n : SN) (f : (Nat → SV) → R α) : R α :=
  entry H a fun
    | .own (.fn g m) _ _ => .need (a.off.den + n.den ≤ m) (f fun i => g (a.off.den + i))
    | .row (.fn g m) => .need (a.off.den + n.den ≤ m) (f fun i => g (a.off.den + i))
    | .own (.lst l) _ _ => optC (unb l) (.need (a.off.den + n.den ≤ lenN l) (f fun i => (nth l (a.off.den + i)).getD undefS)) fun xs => .need (a.off.den + n.den ≤ lenN xs) (f (byteF fun i => byteAt xs (a.off.den + i)))
    | .row (.lst l) => optC (unb l) (.need (a.off.den + n.den ≤ lenN l) (f fun i => (nth l (a.off.den + i)).getD undefS)) fun xs => .need (a.off.den + n.den ≤ lenN xs) (f (byteF fun i => byteAt xs (a.off.den + i)))
    | _ => .stuck 293
/-- what a slice's first n elements are as a function of the place (one cell an element) -/
def fnOf (H : List SO) (x : SV) (f : (Nat → SV) → R α) : R α :=
  match x with
  | .nilSlice => f fun _ => .int .u8 (.lit 0)
  | .slice a n _ => fnSl H a n f
  | .tail a k n _ => fnSl H (a.plus k) n f
  | .str s => f (bytesFn s.den)
  | _ => .stuck 294
/-- the bound on what an append makes: at least so many elements of so many bytes -/
def roomy (n bytes : Nat) : Prop := n * bytes < 70368744177664 ∧ n < 70368744177664
/-- the second argument's type is a slice's or a string's -/
def plainA (P : Program) (argTypes : Array TypeId) : Bool :=
  match argTypes[1]? with
  | some xt => match P.underlying xt with
    | some (.slice _) => true
    | some .string => true
    | _ => false
  | none => true
def apNew (base : Nat) (elem : TypeId) (n : Nat) (l : List SV) : R OpRes := .ok (.val (.slice ⟨base, .lit 0⟩ (.lit n) (.rest base 0)) [] [.own (.lst l) false elem])
/-- the capacity is known -/
def apLit (H : List SO) (base : Nat) (elem : TypeId) (size : Nat) (a : SA) (len c n : Nat) (new : List SV) : R OpRes :=
  boolC (Nat.ble (len + n) c)
    (boolC (Nat.beq n 0) (vR (.slice a (.lit len) (.lit c)))
      (boolC (allN scalar new) (entry H a fun e => match e with
        | .own cl w el => wrCells cl (a.off.add (.lit (len * size))) new fun cl => .ok (.val (.slice a (.lit (len + n)) (.lit c)) [(a.nm, .own cl w el)] [])
        | _ => .stuck 299) (.stuck 300)))
    (loadN H a (len * size) fun old => apNew base elem (len + n) (app old new))
/-- the capacity is what the block has: the old name is given up, whether the block is the same or not -/
def apRest (H : List SO) (base : Nat) (elem : TypeId) (size : Nat) (a : SA) (len nm k n : Nat) (new : List SV) : R OpRes :=
  boolC (Nat.beq n 0) (vR (.slice a (.lit len) (.rest nm k)))
    (boolC (allN scalar new) (boolC (Nat.beq a.nm nm) (boolC (Nat.beq k 0) (a.off.asLit (.stuck 303) fun o => boolC (Nat.beq o 0)
      (entry H a fun e => match e with
        | .own (.lst l) _ el => boolC (Nat.beq el elem) (boolC (Nat.ble (len * size) (lenN l))
            (.ok (.val (.slice ⟨base, .lit 0⟩ (.lit (len + n)) (.rest base 0)) [(a.nm, .gone)] [.own (.lst (app (takeN l (len * size)) new)) false elem])) (.stuck 303)) (.stuck 301)
        | _ => .stuck 302) (.stuck 303)) (.stuck 303)) (.stuck 303)) (.stuck 300))
def apKnown (H : List SO) (base : Nat) (elem : TypeId) (size len n : Nat) (s : SV) (new : List SV) : R OpRes :=
  match s with
  | .nilSlice => boolC (Nat.beq n 0) (vR .nilSlice) (apNew base elem n new)
  | .slice a _ (.lit c) => apLit H base elem size a len c n new
  | .slice a _ (.rest nm k) => apRest H base elem size a len nm k n new
  | _ => .stuck 305
/-- lengths that are not known: one cell an element; into new memory alone -/
def apFn (base : Nat) (elem : TypeId) (size bytes : Nat) (n : SN) (s : SV) (g : Nat → SV) : R OpRes :=
  match s with
  | .nilSlice => .fork (decide (n.den = 0)) (.need (size = 1) (vR .nilSlice)) (.need (roomy n.den bytes ∧ size = 1) (.ok (.val (.slice ⟨base, .lit 0⟩ n (.rest base 0)) [] [.own (.fn g n.den) false elem])))
  | .slice a _ (.lit 0) => .fork (decide (n.den = 0)) (.need (size = 1) (vR (.slice a (.lit 0) (.lit 0)))) (.need (roomy n.den bytes ∧ size = 1) (.ok (.val (.slice ⟨base, .lit 0⟩ n (.rest base 0)) [] [.own (.fn g n.den) false elem])))
  | _ => .stuck 307
def viewE (e : SO) (off n : Nat) (f : (Nat → BitVec 8) → R α) : R α :=
  SO.rec (motive := fun _ => R α) (fun c _ _ => viewC c off n f) (fun c => viewC c off n f) (fun _ _ _ _ _ _ _ _ => .stuck 771) (fun _ => .stuck 771) (.stuck 771) e
/-- a slice's or a string's bytes, as a function of the place -/
def bytesV (H : List SO) (x : SV) (n : SN) (f : (Nat → BitVec 8) → R α) : R α :=
  match x with
  | .nilSlice => f fun _ => 0#8
  | .slice a _ _ => entry H a fun e => viewE e a.off.den n.den f
  | .tail a k _ _ => entry H a fun e => viewE e (a.off.den + k.den) n.den f
  | .str s => f fun i => (s.den.data.getD i 0).toBitVec
  | _ => .stuck 772
def catR (base : Nat) (elem : TypeId) (sets : List (Nat × SO)) (len n : SN) (X Y : Nat → BitVec 8) : R OpRes :=
  .ok (.val (.slice ⟨base, .lit 0⟩ (len.add n) (.rest base 0)) sets [.own (.fn (byteF (catB X len.den Y)) (len.den + n.den)) false elem])
/-- bytes behind bytes, lengths that are not known: the capacity is what the block has -/
def apCatRest (H : List SO) (base : Nat) (elem : TypeId) (size bytes : Nat) (a : SA) (nm k : Nat) (len n : SN) (Y : Nat → BitVec 8) : R OpRes :=
  boolC (Nat.beq a.nm nm) (boolC (Nat.beq k 0) (a.off.asLit (.stuck 773) fun o => boolC (Nat.beq o 0) (entry H a fun e => match e with
    | .own cl _ el => boolC (Nat.beq el elem) (viewC cl 0 len.den fun X => .need (roomy (len.den + n.den) bytes ∧ size = 1) (catR base elem [(a.nm, .gone)] len n X Y)) (.stuck 773)
    | _ => .stuck 773) (.stuck 773)) (.stuck 773)) (.stuck 773)
/-- the capacity is known, and there is no room -/
def apCatNew (H : List SO) (base : Nat) (elem : TypeId) (size bytes : Nat) (s : SV) (c : SN) (len n : SN) (Y : Nat → BitVec 8) : R OpRes :=
  bytesV H s len fun X => .need (c.den < len.den + n.den ∧ roomy (len.den + n.den) bytes ∧ size = 1) (catR base elem [] len n X Y)
def apCat (H : List SO) (base : Nat) (elem : TypeId) (size bytes : Nat) (a : SA) (l : SN) (c : SC) (len n : SN) (x : SV) : R OpRes :=
  bytesV H x n fun Y => SC.rec (motive := fun _ => R OpRes) (fun c' => apCatNew H base elem size bytes (.slice a l (.lit c')) (.lit c') len n Y) (fun c' => apCatNew H base elem size bytes (.slice a l (.sym c')) (.sym c') len n Y) (fun nm k => apCatRest H base elem size bytes a nm k len n Y) c
/-- append where the lengths are not known -/
def apSym (H : List SO) (base : Nat) (elem : TypeId) (size bytes : Nat) (len n : SN) (s x : SV) : R OpRes :=
  match s with
  | .slice a l (.lit (c + 1)) => apCat H base elem size bytes a l (.lit (c + 1)) len n x
  | .slice a l (.sym c) => apCat H base elem size bytes a l (.sym c) len n x
  | .slice a l (.rest nm k) => apCat H base elem size bytes a l (.rest nm k) len n x
  | s => fnOf H x fun g => apFn base elem size bytes n s g
def appendP (P : Program) (H : List SO) (base : Nat) (argTypes : Array TypeId) (s x : SV) : R OpRes :=
  R.opt 295 argTypes[0]? fun st => R.opt 296 (P.underlying st) fun d => TypeDesc.asSl d (.stuck 308) fun elem =>
    R.opt 297 (P.info? elem) fun e => boolC (plainA P argTypes)
      (R.opt 297 (zeroS P elem) fun z => boolC (Nat.beq (lenN z) e.size)
        (lenS x fun n => lenS s fun len =>
          match len, n with
          | .lit len, .lit n => boolC (Nat.blt ((len + n) * e.bytes) 70368744177664) (boolC (Nat.blt (len + n) 70368744177664)
              (srcCells H e.size x (.lit n) fun new => apKnown H base elem e.size len n s new) (.stuck 306)) (.stuck 306)
          | len, n => apSym H base elem e.size e.bytes len n s x)
        (.stuck 298))
      (.stuck 298)
/-- append of a make: so many zeros -/
def zeroStr (n : Nat) : ByteArray := ⟨Array.replicate n 0⟩
def isIntT (P : Program) (t : TypeId) : Bool := optC (P.underlying t) false fun d => match d with | .int _ => true | _ => false
def isZ1 (z : List SV) : Bool := match z with | [.int .u8 (.lit 0)] => true | _ => false
def appendN (P : Program) (H : List SO) (base : Nat) (st : TypeId) (bytes : Nat) (s : SV) (len : SN) (n : SI) : R OpRes :=
  n.asLit (.need (0 ≤ n.den ∧ roomy (len.den + n.den.toNat) bytes) (appendP P H base #[st] s (.str (.sym (zeroStr n.den.toNat))))) fun m => intC m
    (fun m => len.asLit (.need (roomy (len.den + m) bytes) (appendP P H base #[st] s (.str (.lit (zeroStr m))))) fun l => boolC (Nat.blt ((l + m) * bytes) 70368744177664) (boolC (Nat.blt (l + m) 70368744177664) (appendP P H base #[st] s (.str (.lit (zeroStr m)))) (.stuck 824)) (.stuck 824))
    (fun _ => .stuck 824)
def appendZ (P : Program) (H : List SO) (base : Nat) (argTypes : Array TypeId) (s x : SV) : R OpRes :=
  R.opt 820 argTypes[0]? fun st => R.opt 820 argTypes[1]? fun tn => boolC (isIntT P tn)
    (R.opt 821 (P.underlying st) fun d => TypeDesc.asSl d (.stuck 821) fun elem => R.opt 821 (P.info? elem) fun e => R.opt 821 (zeroS P elem) fun z => boolC (isZ1 z) (boolC (Nat.beq e.size 1)
      (lenS s fun len => x.asInt (.stuck 822) fun _ n => appendN P H base st e.bytes s len n) (.stuck 823)) (.stuck 823)) (.stuck 825)
def appendT (P : Program) (H : List SO) (base : Nat) (argTypes : Array TypeId) (s x : SV) : R OpRes := boolC (plainA P argTypes) (appendP P H base argTypes s x) (appendZ P H base argTypes s x)
/-- bytes are copied, their number is not known: there is room for all -/
def copyV (H : List SO) (d x : SV) (len n : SN) : R OpRes :=
  match d with
  | .slice a _ _ => bytesV H x n fun Y => .need (n.den ≤ len.den) (entry H a fun e => match e with
    | .own cl w el => putC cl a.off.den n.den Y fun cl => .ok (.val (.int .i64 n.toI) [(a.nm, .own cl w el)] [])
    | _ => .stuck 315)
  | _ => .stuck 315
def copyT (P : Program) (H : List SO) (argTypes : Array TypeId) (d x : SV) : R OpRes :=
  R.opt 309 argTypes[0]? fun dt => R.opt 310 (P.underlying dt) fun
    | .slice elem => R.opt 311 (P.info? elem) fun e =>
      lenS x fun n => lenS d fun len =>
        match len, n with
        | .lit len', .lit n' =>
          let m := Nat.min n' len'
          srcCells H e.size x (.lit m) fun new =>
            match d with
            | .nilSlice => vR (.int .i64 (.lit (m : Int)))
            | .slice a _ _ =>
              match m with
              | 0 => vR (.int .i64 (.lit 0))
              | _ => match allN scalar new with
                | true => entry H a fun
                  | .own cl w el => wrCells cl a.off new fun cl => .ok (.val (.int .i64 (.lit (m : Int))) [(a.nm, .own cl w el)] [])
                  | _ => .stuck 312
                | false => .stuck 313
            | _ => .stuck 314
        | len, n => boolC (Nat.beq e.size 1) (copyV H d x len n) (.stuck 315)
    | _ => .stuck 316
def lenT (P : Program) (argTypes : Array TypeId) (x : SV) : R OpRes :=
  R.opt 317 argTypes[0]? fun t => R.opt 318 (P.underlying t) fun d =>
    match d, x with
    | .string, .str s => lenS (.str s) fun n => vR (.int .i64 n.toI)
    | .array n _, _ => vR (.int .i64 (.lit (n : Int)))
    | .slice _, .slice _ n _ => vR (.int .i64 n.toI)
    | .slice _, .tail _ _ n _ => vR (.int .i64 n.toI)
    | .slice _, .val (.slice _ n _) => vR (.int .i64 (.sym (n : Int)))
    | .slice _, .nilSlice => vR (.int .i64 (.lit 0))
    | .map _ _, .nilMap => vR (.int .i64 (.lit 0))
    | _, _ => .stuck 319
def min2 (x y : SV) : R SV :=
  match x, y with
  | .int k (.lit a), .int _ (.lit b) => .ok (.int k (.lit (if b < a then b else a)))
  | .int k a, .int _ b => .fork (decide (b.den < a.den)) (.ok (.int k b)) (.ok (.int k a))
  | _, _ => .stuck 320
def max2 (x y : SV) : R SV :=
  match x, y with
  | .int k (.lit a), .int _ (.lit b) => .ok (.int k (.lit (if a < b then b else a)))
  | .int k a, .int _ b => .ok (.int k (.sym (if a.den < b.den then b.den else a.den)))
  | _, _ => .stuck 321
def builtinT (P : Program) (H : List SO) (base : Nat) (b : Builtin) (argTypes : Array TypeId) (args : List SV) : R OpRes :=
  match b, args with
  | .len, x :: _ => lenT P argTypes x
  | .append, [s, x] => appendT P H base argTypes s x
  | .copy, [d, x] => copyT P H argTypes d x
  | .min, [x, y] => (min2 x y).bind fun v => vR v
  | _, _ => .stuck 322

/- Calls. -/
/-- the receiver behind a promoted method: the path from a struct value or pointer -/
def callFn (g : Fn) (first args captured : List SV) : R OpRes :=
  Fn.rec (motive := fun _ => R OpRes) (fun g => .ok (.enter g (app first (app args captured)))) (fun _ => .stuck 323) (fun _ _ => .stuck 323) (fun _ _ _ _ => .stuck 323) (fun _ => .stuck 323) g
def callT (f : SV) (args : List SV) : R OpRes :=
  f.asFunc (.stuck 324) fun fn first captured => SFn.rec (motive := fun _ => R OpRes) (fun g => callFn g first args captured) (fun nm => .ok (.round nm (app first args))) fn

/-- a method promoted through one embedded pointer: the struct's field is the receiver -/
def viaT (P : Program) (path : List FieldStep) (g : FuncId) (args : List SV) : R OpRes :=
  match path, args with
  | [s], .agg l :: rest => match s.deref with
    | true => .stuck 842
    | false => R.opt 343 (P.underlying s.struct) fun
      | .struct fields => R.opt 344 (nth fields.toList s.index) fun f => R.opt 345 (P.underlying f.type) fun
        | .pointer _ => partS P f.type l f.offset fun v => .ok (.enter g (v :: rest))
        | _ => .stuck 846
      | _ => .stuck 847
  | _, _ => .stuck 848
def methodT (P : Program) (t : TypeId) (name : String) (args : List SV) : R OpRes :=
  R.opt 349 (P.underlying t) fun
    | .struct _ => R.opt 350 (P.info? t) fun i => R.opt 351 (i.methods.find? (·.name == name)) fun m => match m.func with
      | some (g, true) => viaT P m.path.toList g args
      | _ => .stuck 852
    | _ => .stuck 853
def callP (P : Program) (f : SV) (args : List SV) : R OpRes :=
  match f with
  | .func (.fn (.via _ path g true)) first _ => viaT P path.toList g (app first args)
  | .func (.fn (.methodOf t name)) first _ => methodT P t name (app first args)
  | f => callT f args

/-- the operands' values -/
def evTmp (t : Nat) (_glob : Nat → Option Nat) (T : List SV) : SV := optC (nth T t) undefS fun v => v
def evConst (v : Value) (_glob : Nat → Option Nat) (_T : List SV) : SV := constV v
def evGlob (g : Nat) (glob : Nat → Option Nat) (_T : List SV) : SV :=
  match glob g with
  | some nm => .ptr ⟨nm, .lit 0⟩
  | none => .val (.pointer (some ⟨g, 0, none⟩))
def evFunc (f : FuncId) (_glob : Nat → Option Nat) (_T : List SV) : SV := .func (.fn (.func f)) [] []
def evO (x : Operand) : (Nat → Option Nat) → List SV → SV := Operand.rec (motive := fun _ => (Nat → Option Nat) → List SV → SV) evTmp evConst evGlob evFunc x
def evS (glob : Nat → Option Nat) (T : List SV) (x : Operand) : SV := evO x glob T

def nilFn (g : SFn) (x : SV) : R OpRes := SFn.rec (motive := fun _ => R OpRes) (fun g => Fn.rec (motive := fun _ => R OpRes) (fun _ => vR x) (fun _ => .stuck 325) (fun _ _ => vR x) (fun _ _ _ _ => vR x) (fun _ => vR x) g) (fun _ => vR x) g
def nilRest (x : SV) : R OpRes :=
  match x with
  | .slice a l c => vR (.slice a l c)
  | .tail a n l c => vR (.tail a n l c)
  | .func g xs ys => nilFn g (.func g xs ys)
  | _ => .stuck 325
def nilCheckT (x : SV) : R OpRes := x.asPtr (nilRest x) fun a => vR (.ptr a)

/- ONE OPERATION: what each takes: the program, the operands' values, the heap, the next name -/
abbrev OpF := Program → (Operand → SV) → List SO → Nat → R OpRes
def oMove (x : Operand) : OpF := fun _ ev _ _ => vR (ev x)
def oPick (c a b : Operand) : OpF := fun _ ev _ _ =>
  match ev c with
  | .bool (.lit true) => vR (ev a)
  | .bool (.lit false) => vR (ev b)
  | .bool (.sym c) => .fork c (vR (ev a)) (vR (ev b))
  | _ => .stuck 326
def oAlloc (elem : TypeId) : OpF := fun P _ _ base => R.opt 327 (zeroS P elem) fun z => .ok (.val (.ptr ⟨base, .lit 0⟩) [] [.own (.lst z) true elem])
def oBox (elem : TypeId) (x : Operand) : OpF := fun _ ev _ base => .ok (.val (.ptr ⟨base, .lit 0⟩) [] [.own (.lst (cellsS (ev x))) true elem])
def oBuild (t : TypeId) (parts : Array (Nat × Operand)) : OpF := fun P ev _ _ => buildT P t (partsS ev parts)
def oBuildSlice (t : TypeId) (len : Nat) (parts : Array (Nat × Operand)) : OpF := fun P ev _ base => buildSliceT P base t len (partsS ev parts)
def oLoad (t : TypeId) (a : Operand) : OpF := fun P ev H _ => ptrS (ev a) fun a => loadT P H t a vR
def oStore (t : TypeId) (a x : Operand) : OpF := fun P ev H _ => ptrS (ev a) fun a => storeT P H t a (ev x)
def oNil (x : Operand) : OpF := fun _ ev _ _ => nilCheckT (ev x)
def oBin (op : BinOp) (t : TypeId) (x y : Operand) (_yt : TypeId) : OpF := fun P ev _ _ => binT P op t (ev x) (ev y)
def oUn (op : UnOp) (_t : TypeId) (x : Operand) : OpF := fun _ ev _ _ => unT op (ev x)
def oConv (src dst : TypeId) (x : Operand) : OpF := fun P ev H base => convT P H base src dst (ev x)
def oArr (arr : TypeId) (x : Operand) : OpF := fun P ev _ _ =>
  R.opt 328 (P.underlying arr) fun
    | .array n _ => match ev x with
      | .slice a len _ => match len with
        | .lit l => match Nat.blt l n with
          | true => .stuck 329
          | false => vR (.ptr a)
        | .sym l => .need (n ≤ l) (vR (.ptr a))
        | .byt o x => .need (n ≤ o + x.toNat) (vR (.ptr a))
      | _ => .stuck 330
    | _ => .stuck 331
def oIface (t : TypeId) (x : Operand) : OpF := fun P ev _ _ =>
  R.opt 332 (P.underlying t) fun
    | .interface _ => .stuck 333
    | _ => vR (.iface t (ev x))
def oFunc (fn : Fn) (first captured : Array Operand) : OpF := fun _ ev _ _ =>
  match fn with
  | .func f => vR (.func (.fn (.func f)) (mapN ev first.toList) (mapN ev captured.toList))
  | .via t path f p => vR (.func (.fn (.via t path f p)) (mapN ev first.toList) (mapN ev captured.toList))
  | .methodOf t name => vR (.func (.fn (.methodOf t name)) (mapN ev first.toList) (mapN ev captured.toList))
  | _ => .stuck 334
def oMakeSlice (t : TypeId) (l c : Operand) : OpF := fun P ev _ base => makeSliceT P base t (ev l) (ev c)
def oSlice (t : TypeId) (x : Operand) (lo hi mx : Option Operand) : OpF := fun P ev _ _ => sliceT P t (ev x) (lo.map ev) (hi.map ev) (mx.map ev)
def oFieldAddr (s : TypeId) (x : Operand) (f : Nat) : OpF := fun P ev _ _ => fieldAddrT P s (ev x) f
def oField (t : TypeId) (x : Operand) (f : Nat) : OpF := fun P ev _ _ =>
  match ev x with
  | .agg l => R.opt 335 (P.underlying t) fun
    | .struct fields => R.opt 336 (nth fields.toList f) fun f => partS P f.type l f.offset vR
    | _ => .stuck 337
  | _ => .stuck 338
def oIndexAddr (t : TypeId) (x i : Operand) : OpF := fun P ev _ _ => indexAddrT P t (ev x) (ev i)
def oIndex (t : TypeId) (x i : Operand) : OpF := fun P ev _ _ => indexT P t (ev x) (ev i)
def oExtract (t : Operand) (i : Nat) : OpF := fun _ ev _ _ =>
  match ev t with
  | .tuple l => R.opt 339 (nth l i) vR
  | _ => .stuck 340
def oCallV (f : Operand) (c : Call) : OpF := fun P ev _ _ => callP P (ev f) (mapN ev c.args.toList)
def oCallB (b : Builtin) (c : Call) : OpF := fun P ev H base => builtinT P H base b c.argTypes (mapN ev c.args.toList)
def oCallI (_r : Operand) (_m : String) (_c : Call) : OpF := fun _ _ _ _ => .stuck 341
def oCallD (c : Callee) : Call → OpF := Callee.rec (motive := fun _ => Call → OpF) oCallV oCallI oCallB c
def oCall (c : Call) : OpF := oCallD c.callee c
def oNo : OpF := fun _ _ _ _ => .stuck 342
def opD (o : Op) : OpF :=
  Op.rec (motive := fun _ => OpF)
    (fun x => oMove x) (fun x => oMove x) (fun c a b => oPick c a b) (fun e => oAlloc e) (fun e x => oBox e x) (fun t ps => oBuild t ps) (fun t n ps => oBuildSlice t n ps)
    (fun _ _ _ _ => oNo) (fun t a => oLoad t a) (fun t a x => oStore t a x) (fun _ => oNo) (fun _ => oNo) (fun x => oNil x)
    (fun op t x y yt => oBin op t x y yt) (fun op t x => oUn op t x) (fun s d x => oConv s d x) (fun t x => oArr t x) (fun t x => oIface t x)
    (fun fn xs ys => oFunc fn xs ys) (fun _ _ => oNo) (fun _ _ => oNo) (fun t l c => oMakeSlice t l c) (fun t x lo hi mx => oSlice t x lo hi mx)
    (fun s x f => oFieldAddr s x f) (fun t x f => oField t x f) (fun t x i => oIndexAddr t x i) (fun t x i => oIndex t x i)
    (fun _ _ _ _ => oNo) (fun _ _ _ _ => oNo) (fun _ _ _ => oNo) (fun _ _ _ _ => oNo) (fun _ _ => oNo) (fun _ _ => oNo) (fun _ => oNo) (fun _ _ _ _ => oNo)
    (fun t i => oExtract t i) (fun c => oCall c) (fun _ => oNo) (fun _ => oNo) (fun _ => oNo) (fun _ _ => oNo) (fun _ _ _ => oNo) (fun _ _ => oNo) o
def opS (P : Program) (ev : Operand → SV) (H : List SO) (base : Nat) (o : Oper) : R OpRes := opD o.op P ev H base

end
end Go.Sim
