/-
  Texts behind one another: the symbolic simulator and what it is told of the program.
-/
import Derived.Test.YthkgcljngalafaaDoorPs1
import Derived.Laws.Sem
import Derived.Laws.Entries
import Derived.Laws.Strings
import Derived.Laws.IdiomStrings
import Derived.Laws.BytesString
import Derived.Laws.StructEq
import Derived.ChangeKeysEq
import Derived.MapKept
import Derived.Laws.Append
namespace Go.Sim
noncomputable section
variable {α β:Type}
def R.Sat (r:R α) (φ:α->Prop):Prop :=
 match r with
 | .ok a=>φ a
 | .need p r=>p->r.Sat φ
 | .fork b t f=>(b=true->t.Sat φ)/\(b=false->f.Sat φ)
 | .stuck _=>True
 | .any k=>∃ z,(k z).Sat φ
theorem R.Sat.mono {r:R α} {φ ψ:α->Prop} (h:r.Sat φ) (hi:∀ a,φ a->ψ a):r.Sat ψ:=by
 induction r with
 | ok a=>exact hi a h
 | need p r ih=>exact fun hp=>ih (h hp)
 | fork b t f iht ihf=>exact ⟨fun hb=>iht (h.1 hb),fun hb=>ihf (h.2 hb)⟩
 | stuck n=>trivial
 | any k ih=>obtain ⟨z,h⟩:=h; exact ⟨z,ih z h⟩
theorem R.Sat.bind {r:R α} {f:α->R β} {φ:α->Prop} {ψ:β->Prop} (h:r.Sat φ) (hf:∀ a,φ a->(f a).Sat ψ):(r.bind f).Sat ψ:=by
 induction r with
 | ok a=>exact hf a h
 | need p r ih=>exact fun hp=>ih (h hp)
 | fork b t f iht ihf=>exact ⟨fun hb=>iht (h.1 hb),fun hb=>ihf (h.2 hb)⟩
 | stuck n=>trivial
 | any k ih=>obtain ⟨z,h⟩:=h; exact ⟨z,ih z h⟩
theorem R.Sat.opt {n:Nat} {o:Option α} {f:α->R β} {ψ:β->Prop} (h:∀ a,o=some a->(f a).Sat ψ):(R.opt n o f).Sat ψ:=by
 cases o with
 | none=>trivial
 | some a=>exact h a rfl
@[simp] theorem boolC_true (t f:α):boolC true t f=t:=rfl
@[simp] theorem boolC_false (t f:α):boolC false t f=f:=rfl
@[simp] theorem optC_none (d:β) (f:α->β):optC none d f=d:=rfl
@[simp] theorem optC_some (a:α) (d:β) (f:α->β):optC (some a) d f=f a:=rfl
theorem R.Sat.boolC {b:Bool} {t f:R α} {φ:α->Prop} (ht:b=true->t.Sat φ) (hf:b=false->f.Sat φ):(boolC b t f).Sat φ:=by
 cases b with
 | true=>exact ht rfl
 | false=>exact hf rfl
theorem qdt (k:IntKind) (m:Nat) (h:m<=maxN k):k.wrap (m:Int)=(m:Int):=by
 cases k <;> simp only [maxN,IntKind.wrap,IntKind.bits,IntKind.signed] at * <;> simp <;> omega
theorem qzc (k:IntKind) (n:Int):qyc k n=k.wrap n:=by
 cases n with
 | negSucc m=>rfl
 | ofNat m =>
   show (Bool.rec (motive:=fun _=>Int) (k.wrap (.ofNat m)) (.ofNat m) (Nat.ble m (maxN k)):Int)=_
   cases h:Nat.ble m (maxN k) with
   | false=>rfl
   | true=>exact (qdt k m (Nat.le_of_ble_eq_true h)).symm
theorem qjj {a b:IntKind} (h:eqK a b=true):a=b:=by
 have:=Nat.eq_of_beq_eq_true h
 cases a <;> cases b <;> first | rfl | (exact absurd this (by decide))
theorem qzk (x y:Int):eqI x y=(x == y):=by
 cases x <;> cases y <;> simp only [eqI,intC]
 . rw [Bool.eq_iff_iff]; simp [Int.ofNat_inj]
 . rfl
 . rfl
 . rw [Bool.eq_iff_iff]; simp
theorem j2g (x y:Int):ltI x y=decide (x<y):=by
 cases x <;> cases y <;> simp only [ltI,intC]
 . rw [Bool.eq_iff_iff]; simp [Nat.blt]; omega
 . rw [Bool.eq_iff_iff]; simp; omega
 . rw [Bool.eq_iff_iff]; simp; omega
 . rw [Bool.eq_iff_iff]; simp [Nat.blt]; omega
theorem jxd (x y:Int):addI x y=x+y:=by
 cases x <;> cases y <;> rfl
theorem q4i (m:Int):IntKind.u8.wrap m=((BitVec.ofInt 8 m).toNat:Int):=by
 simp [IntKind.wrap,IntKind.bits,IntKind.signed,BitVec.toNat_ofInt]; omega
theorem qeh (m:Int):IntKind.u32.wrap m=((BitVec.ofInt 32 m).toNat:Int):=by
 simp [IntKind.wrap,IntKind.bits,IntKind.signed,BitVec.toNat_ofInt]; omega
theorem qfh (m:Int):IntKind.u64.wrap m=((BitVec.ofInt 64 m).toNat:Int):=by
 simp [IntKind.wrap,IntKind.bits,IntKind.signed,BitVec.toNat_ofInt]; omega
theorem wrap_i64 {m:Int} (h:qpa m):IntKind.i64.wrap m=m:=by
 unfold qpa at h
 simp [IntKind.wrap,IntKind.bits,IntKind.signed]; omega
theorem qmb {w:Nat} (x:BitVec w):BitVec.ofInt w (x.toNat:Int)=x:=by
 apply BitVec.eq_of_toNat_eq
 rw [BitVec.toNat_ofInt]
 have:=x.isLt
 rw [← Int.natCast_emod,Int.toNat_natCast,Nat.mod_eq_of_lt this]
theorem qm0 {x:SI} {a:BitVec 8} (h:i8 x=some a):BitVec.ofInt 8 x.den=a:=by
 cases x <;> simp [i8] at h <;> subst h <;> first | rfl | exact qmb _
theorem qax {x:SI} {a:BitVec 32} (h:i32 x=some a):BitVec.ofInt 32 x.den=a:=by
 cases x <;> simp [i32] at h <;> subst h <;> first | rfl | exact qmb _
theorem qbx {x:SI} {a:BitVec 64} (h:i64 x=some a):BitVec.ofInt 64 x.den=a:=by
 cases x <;> simp [i64] at h <;> subst h <;> first | rfl | exact qmb _
def arM (op:BinOp) (k:IntKind) (x y:Int):Option Int :=
 match op with
 | .add=>some (k.wrap (x+y))
 | .sub=>some (k.wrap (x - y))
 | .mul=>some (k.wrap (x * y))
 | .and | .or | .xor | .andNot=>some (qrd op k x y)
 | _=>none
theorem qfu (op:BinOp) (k:IntKind) (x y:Int):q4q op k x y=arM op k x y:=by
 cases op <;> simp [q4q,arM,jpb,jqb,jrb,jsb,arOr,jtb,qow,q3e,qzc,jxd] <;> rfl
theorem qul (w:Nat) (a b:Int):BitVec.ofInt w (a - b)=BitVec.ofInt w a - BitVec.ofInt w b:=by
 rw [Int.sub_eq_add_neg,BitVec.ofInt_add,BitVec.ofInt_neg,BitVec.sub_eq_add_neg]
theorem jyd {op:BinOp} {x y:Int} {a b z:BitVec 8} (ha:BitVec.ofInt 8 x=a) (hb:BitVec.ofInt 8 y=b) (h:bvOp op 8 a b=some z):arM op .u8 x y=some (z.toNat:Int):=by
 cases op <;> simp only [bvOp,qxv,qyv,qzv,q2q,bvOr,q3q,qil,q4d,Option.some.injEq,reduceCtorEq] at h <;> subst h <;> subst ha <;> subst hb <;>
  simp only [arM,qrd,q4i,IntKind.bits,qmb,BitVec.ofInt_add,BitVec.ofInt_mul,qul] <;> rfl
theorem qx8 {op:BinOp} {x y:Int} {a b z:BitVec 32} (ha:BitVec.ofInt 32 x=a) (hb:BitVec.ofInt 32 y=b) (h:bvOp op 32 a b=some z):arM op .u32 x y=some (z.toNat:Int):=by
 cases op <;> simp only [bvOp,qxv,qyv,qzv,q2q,bvOr,q3q,qil,q4d,Option.some.injEq,reduceCtorEq] at h <;> subst h <;> subst ha <;> subst hb <;>
  simp only [arM,qrd,qeh,IntKind.bits,qmb,BitVec.ofInt_add,BitVec.ofInt_mul,qul] <;> rfl
theorem qy8 {op:BinOp} {x y:Int} {a b z:BitVec 64} (ha:BitVec.ofInt 64 x=a) (hb:BitVec.ofInt 64 y=b) (h:bvOp op 64 a b=some z):arM op .u64 x y=some (z.toNat:Int):=by
 cases op <;> simp only [bvOp,qxv,qyv,qzv,q2q,bvOr,q3q,qil,q4d,Option.some.injEq,reduceCtorEq] at h <;> subst h <;> subst ha <;> subst hb <;>
  simp only [arM,qrd,qfh,IntKind.bits,qmb,BitVec.ofInt_add,BitVec.ofInt_mul,qul] <;> rfl
theorem q7c (op:BinOp) (k:IntKind) (x y:SI):(q7f op k x y).Sat fun z=>arM op k x.den y.den=some z.den:=by
 refine R.Sat.opt fun n hn => ?_
 rw [qfu] at hn; exact hn
theorem jzd (op:BinOp) (x y:SI):(ar8 op x y).Sat fun z=>arM op .u8 x.den y.den=some z.den:=by
 unfold ar8
 cases hx:i8 x with
 | none=>exact q7c op .u8 x y
 | some a =>
   show (ar8b a op x y).Sat _
   unfold ar8b
   cases hy:i8 y with
   | none=>exact q7c op .u8 x y
   | some b=>exact R.Sat.opt fun n hn=>jyd (qm0 hx) (qm0 hy) hn
theorem qz8 (op:BinOp) (x y:SI):(ar32 op x y).Sat fun z=>arM op .u32 x.den y.den=some z.den:=by
 unfold ar32
 cases hx:i32 x with
 | none=>exact q7c op .u32 x y
 | some a =>
   show (qs1 a op x y).Sat _
   unfold qs1
   cases hy:i32 y with
   | none=>exact q7c op .u32 x y
   | some b=>exact R.Sat.opt fun n hn=>qx8 (qax hx) (qax hy) hn
theorem q08 (op:BinOp) (x y:SI):(ar64 op x y).Sat fun z=>arM op .u64 x.den y.den=some z.den:=by
 unfold ar64
 cases hx:i64 x with
 | none=>exact q7c op .u64 x y
 | some a =>
   show (qt1 a op x y).Sat _
   unfold qt1
   cases hy:i64 y with
   | none=>exact q7c op .u64 x y
   | some b=>exact R.Sat.opt fun n hn=>qy8 (qbx hx) (qbx hy) hn
theorem qvl (op:BinOp) (x y:SI):(qsk op x y).Sat fun z=>arM op .i64 x.den y.den=some z.den:=by
 unfold qsk
 cases hp:qpw op x.den y.den with
 | none=>exact q7c op .i64 x y
 | some n =>
   intro hin
   show arM op .i64 x.den y.den=some n
   cases op <;> simp only [qpw,jub,jvb,qfd,Option.some.injEq,reduceCtorEq] at hp <;> subst hp <;> simp only [arM,wrap_i64 hin]
theorem qhf (a:BitVec 32):BitVec.ofInt 64 (a.toNat:Int)=a.setWidth 64:=by
 apply BitVec.eq_of_toNat_eq
 rw [BitVec.toNat_ofInt,BitVec.toNat_setWidth]
 have:=a.isLt
 omega
theorem qcx (a:BitVec 32):IntKind.i64.wrap (a.toNat:Int)=(a.toNat:Int):=wrap_i64 ⟨by omega,by have:=a.isLt; omega⟩
theorem qwl {op:BinOp} {a b z:BitVec 32} (h:q0v op a b=some z):arM op .i64 (a.toNat:Int) (b.toNat:Int)=some (z.toNat:Int):=by
 have hw:∀ x:BitVec 32,(x.setWidth 64).toNat=x.toNat:=fun x=>by
  rw [BitVec.toNat_setWidth]; have:=x.isLt; omega
 cases op <;> first | (cases h; done) | skip
 . cases h
   show some (IntKind.i64.wrap ((BitVec.ofInt 64 (a.toNat:Int) &&& BitVec.ofInt 64 (b.toNat:Int)).toNat:Int))=_
   rw [qhf,qhf,BitVec.toNat_and,hw,hw,← BitVec.toNat_and,qcx]
 . cases h
   show some (IntKind.i64.wrap ((BitVec.ofInt 64 (a.toNat:Int) ||| BitVec.ofInt 64 (b.toNat:Int)).toNat:Int))=_
   rw [qhf,qhf,BitVec.toNat_or,hw,hw,← BitVec.toNat_or,qcx]
 . cases h
   show some (IntKind.i64.wrap ((BitVec.ofInt 64 (a.toNat:Int) ^^^ BitVec.ofInt 64 (b.toNat:Int)).toNat:Int))=_
   rw [qhf,qhf,BitVec.toNat_xor,hw,hw,← BitVec.toNat_xor,qcx]
theorem qo5 (op:BinOp) (x y:SI):(qu1 op x y).Sat fun z=>arM op .i64 x.den y.den=some z.den:=by
 unfold qu1
 cases x <;> first | exact qvl op _ _ | skip
 rename_i a
 cases y <;> first | exact qvl op _ _ | skip
 rename_i b
 show R.Sat (Option.rec (motive:=fun _=>R SI) (qsk op (.b32 a) (.b32 b)) (fun z=>.ok (.b32 z)) (q0v op a b)) _
 cases hb:q0v op a b with
 | none=>exact qvl op _ _
 | some z=>exact qwl hb
theorem qn0 (k:IntKind) (op:BinOp) (x y:SI):(arK k op x y).Sat fun z=>arM op k x.den y.den=some z.den:=by
 cases k
 . exact q7c op _ x y
 . exact q7c op _ x y
 . exact q7c op _ x y
 . exact qo5 op x y
 . exact jzd op x y
 . exact q7c op _ x y
 . exact qz8 op x y
 . exact q08 op x y
theorem qzg (op:BinOp) (k:IntKind) (x y:SI):(qtk op k x y).Sat fun z=>arM op k x.den y.den=some z.den:=by
 cases x with
 | lit a=>cases y with
   | lit b =>
     refine R.Sat.opt fun n hn => ?_
     rw [qfu] at hn; exact hn
   | _=>exact qn0 k op _ _
 | _=>exact qn0 k op _ _
def dvM (op:BinOp) (k:IntKind) (x y:Int):Int :=
 match op with
 | .quo=>k.wrap (x.tdiv y)
 | _=>x.tmod y
theorem q7h (op:BinOp) (k:IntKind) (x y:SI):(qjl op k x y).Sat fun z=>dvM op k x.den y.den=z.den:=by
 cases op <;> rfl
theorem qp5 (op:BinOp) (k:IntKind) (x:SI):(qv1 op k x 4294967296).Sat fun z=>dvM op k x.den 4294967296=z.den:=by
 unfold qv1
 split
 . intro h0
   show x.den.tmod 4294967296=((BitVec.ofInt 32 x.den).toNat:Int)
   rw [BitVec.toNat_ofInt,Int.tmod_eq_emod_of_nonneg h0]
   have:=Int.emod_nonneg x.den (show (4294967296:Int)≠0 by decide)
   show _=((x.den % ((4294967296:Nat):Int)).toNat:Int)
   omega
 . exact q7h _ k x (.lit 4294967296)
theorem q18 (op:BinOp) (k:IntKind) (x:SI):(rem8 op k x 256).Sat fun z=>dvM op k x.den 256=z.den:=by
 unfold rem8
 split
 . cases x <;> first | exact q7h _ k _ (.lit 256) | skip
   rename_i a
   show (a.toNat:Int).tmod 256=((a.setWidth 8).toNat:Int)
   rw [BitVec.toNat_setWidth,Int.tmod_eq_emod_of_nonneg (by omega)]
   omega
 . exact q7h _ k x (.lit 256)
theorem j0d (b:Int) (op:BinOp) (k:IntKind) (x:SI):(dvW b x op k).Sat fun z=>dvM op k x.den b=z.den:=by
 unfold dvW
 refine R.Sat.boolC (fun h => ?_) fun _=>R.Sat.boolC (fun h => ?_) fun _=>q7h op k x (.lit b)
 . rw [qzk] at h
   have:b=4294967296:=by simpa using h
   subst this
   exact qp5 op k x
 . rw [qzk] at h
   have:b=256:=by simpa using h
   subst this
   exact q18 op k x
theorem q28 (op:BinOp) (k:IntKind) (x y:SI):(divS op k x y).Sat fun z=>y.den≠0/\dvM op k x.den y.den=z.den:=by
 have hs:∀ y:SI,(R.need (y.den≠0) (qjl op k x y)).Sat fun z=>y.den≠0/\dvM op k x.den y.den=z.den:=fun y h0=>(q7h op k x y).mono fun _ h=>⟨h0,h⟩
 cases y with
 | lit b =>
   refine R.Sat.boolC (fun _=>trivial) (fun h0 => ?_)
   have hb:b≠0:=by
    rw [qzk] at h0; simpa using h0
   cases x with
   | lit a =>
     show (dvLL a b op k).Sat _
     cases op <;> first | exact ⟨hb,rfl⟩ | (exact ⟨hb,(qzc k _).symm⟩)
   | _=>exact (j0d b op k _).mono fun _ h=>⟨hb,h⟩
 | _=>exact hs _
def shM (op:BinOp) (k:IntKind) (x y:Int):Int :=
 match op with
 | .shl=>k.wrap (x * 2 ^ (min y.toNat k.bits))
 | _=>x.fdiv (2 ^ (min y.toNat k.bits))
theorem qdx (k:IntKind):qw1 k=k.bits:=by cases k <;> rfl
theorem qtr {w:Nat} (a:BitVec w) (n:Nat):BitVec.ofInt w ((a.toNat:Int) * 2 ^ n)=a <<< n:=by
 rw [BitVec.ofInt_mul,qmb]
 apply BitVec.eq_of_toNat_eq
 rw [BitVec.toNat_mul,BitVec.toNat_shiftLeft,BitVec.toNat_ofInt,Nat.shiftLeft_eq]
 have:((2 ^ n:Int) % (2 ^ w:Nat)).toNat=2 ^ n % 2 ^ w:=by
  rw [show (2 ^ n:Int)=((2 ^ n:Nat):Int) from by simp,← Int.natCast_emod,Int.toNat_natCast]
 rw [this,Nat.mul_mod_mod]
theorem qex {w:Nat} (a:BitVec w) (n:Nat):Int.fdiv (a.toNat:Int) (2 ^ n)=((a >>> n).toNat:Int):=by
 rw [Int.fdiv_eq_ediv_of_nonneg _ (Int.pow_nonneg (by decide)),BitVec.toNat_ushiftRight,Nat.shiftRight_eq_div_pow]
 simp
theorem j1d (x:SI) (n:Nat) (k:IntKind) (op:BinOp) (hop:op=.shl\/op=.shr):(shX x n k op).Sat fun z=>(match op with
  | .shl=>k.wrap (x.den * 2 ^ n)
  | _=>x.den.fdiv (2 ^ n))=z.den:=by
 have hp:Int.ofNat (2 ^ n)=2 ^ n:=by simp
 rcases hop with rfl | rfl
 . cases x with
   | lit a=>show k.wrap (a * 2 ^ n)=qyc k (a * Int.ofNat (2 ^ n)); rw [qzc,hp]
   | sym a=>rfl
   | b8 a=>cases k <;> first | trivial | (show IntKind.u8.wrap _=_; rw [q4i]; simp only [SI.den]; rw [qtr])
   | b32 a=>cases k <;> first | trivial | (show IntKind.u32.wrap _=_; rw [qeh]; simp only [SI.den]; rw [qtr]) | rfl
   | b64 a=>cases k <;> first | trivial | (show IntKind.u64.wrap _=_; rw [qfh]; simp only [SI.den]; rw [qtr])
 . cases x with
   | lit a=>show a.fdiv (2 ^ n)=a.fdiv (Int.ofNat (2 ^ n)); rw [hp]
   | sym a=>rfl
   | b8 a=>cases k <;> first | trivial | exact qex a n
   | b32 a=>cases k <;> first | trivial | exact qex a n
   | b64 a=>cases k <;> first | trivial | exact qex a n
theorem qu2 (op:BinOp) (k:IntKind) (x y:SI) (hop:op=.shl\/op=.shr):(qz4 op k x y).Sat fun z=>0<=y.den/\shM op k x.den y.den=z.den:=by
 have hs:∀ y:SI,(qy4 op k x y).Sat fun z=>0<=y.den/\shM op k x.den y.den=z.den:=by
  intro y h0
  rcases hop with rfl | rfl <;> exact ⟨h0,rfl⟩
 cases y with
 | lit b=>cases b with
   | negSucc n=>trivial
   | ofNat n =>
     have key:∀ m,min n k.bits=m->(shX x m k op).Sat fun z=>0<=(SI.lit (.ofNat n)).den/\shM op k x.den (SI.lit (.ofNat n)).den=z.den:=by
      intro m hm
      refine (j1d x m k op hop).mono fun z hz=>⟨Int.natCast_nonneg n,?_⟩
      subst hm
      rcases hop with rfl | rfl <;> exact hz
     refine R.Sat.boolC (fun h=>key n ?_) (fun h=>key _ ?_)
     . rw [qdx] at h
       exact Nat.min_eq_left (Nat.le_of_ble_eq_true h)
     . rw [qdx] at *
       refine Nat.min_eq_right ?_
       rcases Nat.lt_or_ge k.bits n with h' | h'
       . omega
       . rw [Nat.ble_eq_true_of_le h'] at h; cases h
 | _=>exact hs _
theorem j2d (op:BinOp) (x y:Int):cmpL op x y=cmpI op x y:=by
 cases op <;> simp only [cmpL,cmpI,jwb,jxb,jyb,jzb,j0b,j1b,qoe,qzk,j2g]
 . rfl
 . congr 1; rw [Bool.eq_iff_iff]; simp
 . congr 1; rw [Bool.eq_iff_iff]; simp
theorem q38 (op:BinOp) (x y:SI):(cmpS op x y).Sat fun b=>cmpI op x.den y.den=some b.den:=by
 have hs:∀ x y:SI,(qx1 op x y).Sat fun b=>cmpI op x.den y.den=some b.den:=fun x y=>R.Sat.opt fun b hb=>hb
 cases x with
 | lit a=>cases y with
   | lit b=>exact R.Sat.opt fun c hc=>by rw [j2d] at hc; exact hc
   | _=>exact hs _ _
 | _=>exact hs _ _
theorem setW {w v:Nat} (a:BitVec w):BitVec.ofInt v (a.toNat:Int)=a.setWidth v:=by
 apply BitVec.eq_of_toNat_eq
 rw [BitVec.toNat_ofInt,BitVec.toNat_setWidth,← Int.natCast_emod,Int.toNat_natCast]
theorem qq5 (k:IntKind) (x:SI):(j2b k x).den=k.wrap x.den:=by
 cases x with
 | lit n=>exact qzc k n
 | sym n =>
   cases k <;> first
    | rfl
    | exact (q4i n).symm
    | exact (qeh n).symm
    | exact (qfh n).symm
 | b8 a =>
   have:=a.isLt
   cases k <;> first
    | rfl
    | (show (a.toNat:Int)=IntKind.u8.wrap (a.toNat:Int); rw [q4i,qmb])
    | (show ((a.setWidth 32).toNat:Int)=IntKind.u32.wrap (a.toNat:Int); rw [qeh,setW])
    | (show ((a.setWidth 64).toNat:Int)=IntKind.u64.wrap (a.toNat:Int); rw [qfh,setW])
    | (show (a.toNat:Int)=IntKind.i64.wrap (a.toNat:Int); rw [wrap_i64 ⟨by omega,by omega⟩])
 | b32 a =>
   have:=a.isLt
   cases k <;> first
    | rfl
    | (show ((a.setWidth 8).toNat:Int)=IntKind.u8.wrap (a.toNat:Int); rw [q4i,setW])
    | (show (a.toNat:Int)=IntKind.u32.wrap (a.toNat:Int); rw [qeh,qmb])
    | (show ((a.setWidth 64).toNat:Int)=IntKind.u64.wrap (a.toNat:Int); rw [qfh,setW])
    | (show (a.toNat:Int)=IntKind.i64.wrap (a.toNat:Int); rw [wrap_i64 ⟨by omega,by omega⟩])
 | b64 a =>
   cases k <;> first
    | rfl
    | (show ((a.setWidth 8).toNat:Int)=IntKind.u8.wrap (a.toNat:Int); rw [q4i,setW])
    | (show ((a.setWidth 32).toNat:Int)=IntKind.u32.wrap (a.toNat:Int); rw [qeh,setW])
    | (show (a.toNat:Int)=IntKind.u64.wrap (a.toNat:Int); rw [qfh,qmb])
theorem q5i (x:SI):x.toN.den=x.den.toNat:=by
 cases x with
 | lit n=>cases n <;> rfl
 | b8 x=>show 0+x.toNat=(x.toNat:Int).toNat; omega
 | _=>rfl
theorem qzo (x:SN):x.toI.den=(x.den:Int):=by cases x <;> rfl
theorem SN.add_den (x y:SN):(x.add y).den=x.den+y.den:=by
 cases x <;> cases y <;> first
  | rfl
  | (rename_i a o x; show a+o+x.toNat=a+(o+x.toNat); omega)
  | (rename_i o x b; show o+b+x.toNat=o+x.toNat+b; omega)
theorem SN.sub_den (x y:SN):(x.sub y).den=x.den - y.den:=by cases x <;> cases y <;> rfl
theorem SN.mul_den (x:SN) (b:Nat):(x.mul b).den=x.den * b:=by
 cases x with
 | byt o a =>
   show (Sim.boolC (Nat.beq b 1) (SN.byt o a) (.sym ((o+a.toNat) * b))).den=(o+a.toNat) * b
   cases h:Nat.beq b 1 with
   | false=>rfl
   | true=>rw [Nat.eq_of_beq_eq_true h,Nat.mul_one]; rfl
 | _=>rfl
theorem qxl {i:SI} {n:SN} {k:SN->R α} {φ:α->Prop} (h:∀ j:SN,0<=i.den->i.den<(n.den:Int)->j.den=i.den.toNat->(k j).Sat φ):(idxS i n k).Sat φ:=by
 have hs:∀ i':SI,i'=i->(qdj i' n k).Sat φ:=by
  rintro i' rfl ⟨h0,h1⟩
  exact h _ h0 h1 (q5i _)
 cases i with
 | lit a=>cases a with
   | negSucc a=>trivial
   | ofNat a =>
     show (q04 a n k).Sat φ
     cases n with
     | lit n =>
       refine R.Sat.boolC (fun hb => ?_) (fun _=>trivial)
       have hlt:a<n:=Nat.le_of_ble_eq_true hb
       exact h (.lit a) (Int.natCast_nonneg a) (by simp [SI.den,SN.den]; exact hlt) rfl
     | sym n=>exact fun hlt=>h (.lit a) (Int.natCast_nonneg a) (by simp [SI.den,SN.den]; exact hlt) rfl
     | byt o x=>exact fun hlt=>h (.lit a) (Int.natCast_nonneg a) (by simp only [SI.den,SN.den]; have:a<o+x.toNat:=hlt; show (a:Int)<_; omega) rfl
 | b8 x =>
   show (q6s x n k).Sat φ
   unfold q6s
   cases n with
   | lit m =>
     refine R.Sat.boolC (fun hb => ?_) (fun _=>hs _ rfl)
     have hb:256<=m:=Nat.le_of_ble_eq_true hb
     have hx:=x.isLt
     exact h (.byt 0 x) (by simp only [SI.den]; omega) (by simp only [SI.den,SN.den]; omega) (by simp only [SI.den,SN.den]; omega)
   | sym m=>exact hs _ rfl
   | byt o y=>exact hs _ rfl
 | _=>exact hs _ rfl
theorem q48 {i:SI} {n:SN} {k:SN->R α} {φ:α->Prop} (h:∀ j:SN,0<=i.den->i.den<=(n.den:Int)->j.den=i.den.toNat->(k j).Sat φ):(bndS i n k).Sat φ:=by
 have hs:∀ i':SI,i'=i->(q14 i' n k).Sat φ:=by
  rintro i' rfl ⟨h0,h1⟩
  exact h _ h0 h1 (q5i _)
 cases i with
 | lit a=>cases a with
   | negSucc a=>trivial
   | ofNat a =>
     show (q24 a n k).Sat φ
     cases n with
     | lit n =>
       refine R.Sat.boolC (fun hb => ?_) (fun _=>trivial)
       have hlt:a<=n:=Nat.le_of_ble_eq_true hb
       exact h (.lit a) (Int.natCast_nonneg a) (by simp [SI.den,SN.den]; exact hlt) rfl
     | sym n=>exact fun hlt=>h (.lit a) (Int.natCast_nonneg a) (by simp [SI.den,SN.den]; exact hlt) rfl
     | byt o x=>exact fun hlt=>h (.lit a) (Int.natCast_nonneg a) (by simp only [SI.den,SN.den]; have:a<=o+x.toNat:=hlt; show (a:Int)<=_; omega) rfl
 | _=>exact hs _ rfl
theorem SN.asLit_sat {x:SN} {d:R α} {f:Nat->R α} {φ:α->Prop} (h:∀ n,x=.lit n->(f n).Sat φ) (hd:(∀ n,x≠.lit n)->d.Sat φ):(x.asLit d f).Sat φ:=by
 cases x with
 | lit n=>exact h n rfl
 | sym n=>exact hd (by intro _ e; cases e)
 | byt o y=>exact hd (by intro _ e; cases e)
end
noncomputable section
variable {α:Type}
def qgh:Next->Option Value
 | .value v=>some v
 | .skip=>some undef
 | _=>none
def Free (β:Val) (base:Nat) (news:List SO):Prop:=∀ i,i<news.length->β (base+i)=none
theorem Free.hd {β:Val} {base:Nat} {e:SO} {r:List SO} (h:Free β base (e::r)):β base=none:=h 0 (Nat.zero_lt_succ _)
def qea (P:Program) (H:List SO) (β:Val) (w:World) (base:Nat) (res:Result Next):OpRes->Prop
 | .val v sets news=>Free β base news->∃ nx v' w' β',res=.ok nx w'/\qgh nx=some v'/\v.den β'=some v'/\Eff P β w base sets news β' w'/\∀ n e,(n,e)∈sets->∃ e0,H[n]? = some e0/\e0.owned=true
 | .enter f args=>∃ vs,SV.denL β args=some vs/\res=(callFunc f vs.toArray).run P w
 | .touch v nm=>∃ nx v' w' e,res=.ok nx w'/\qgh nx=some v'/\v.den β=some v'/\H[nm]? = some e/\e.owned=true/\Eff P β w base [(nm,e)] [] β w'
 | .round nm args=>∃ l vs,β nm=some l/\SV.denL β args=some vs/\res=(Instr.yield l.blk vs.toArray).run P w
 | .defer d=>∃ x,d.den β=some x/\res=.ok (.defer x) w
 | .panic v=>∃ x,v.den β=some x/\res=.halt (.panic x) w
theorem Eff.none {P:Program} {β:Val} {w w':World} {base:Nat} (hh:w'.heap=w.heap) (ho:w'.os=w.os) (ht:w'.tape=w.tape) (hu:w'.output=w.output) (hdr:w.drawn<=w'.drawn:=by first | exact Nat.le_refl _ | exact Nat.le_succ _ | exact Nat.le_succ_of_le (Nat.le_succ _)):Eff P β w base [] [] β w' where
 le:=Val.le_refl β
 os:=ho
 tape:=ht
 output:=hu
 drawn:=hdr
 size:=by rw [hh]; exact Nat.le_refl _
 dom:=fun _ _=>rfl
 frame:=fun b _ _=>by rw [hh]
 one:=by simp
 turned:=by simp
 made:=by simp
 apart:=by simp
theorem Eff.refl (P:Program) (β:Val) (w:World) (base:Nat):Eff P β w base [] [] β w:=Eff.none rfl rfl rfl rfl
def Val.upd (β:Val) (n:Nat) (l:Loc):Val:=fun m=>if m=n then some l else β m
theorem Val.upd_le {β:Val} {n:Nat} {l:Loc} (h:β n=Option.none):β.le (β.upd n l):=by
 intro m x hm
 unfold Val.upd
 split
 . rename_i e; rw [e,h] at hm; cases hm
 . exact hm
theorem Val.upd_same (β:Val) (n:Nat) (l:Loc):β.upd n l n=some l:=by simp [Val.upd]
theorem Eff.alloc {P:Program} {β:Val} {w w':World} {base:Nat} {c:Cells} {whole:Bool} {elem:TypeId} {vs rest:List Value} {lo hi cap:Nat} (hb:β base=Option.none)
  (hh:w'.heap=w.heap.push (.cells (vs++rest).toArray elem (lo,hi))) (ho:w'.os=w.os) (ht:w'.tape=w.tape) (hu:w'.output=w.output)
  (hc:CellsRel β c vs) (hfz:Unfz lo hi (vs++rest).length) (hw:whole=true->rest=[]) (hcap:∀ i,P.info? elem=some i->cap * i.size<=(vs++rest).length) (hdr:w.drawn<=w'.drawn:=by first | exact Nat.le_refl _ | exact Nat.le_succ _ | exact Nat.le_succ_of_le (Nat.le_succ _)) :
  Eff P β w base [] [.own c whole elem] (β.upd base ⟨w.heap.size,0,cap⟩) w' where
 le:=Val.upd_le hb
 os:=ho
 tape:=ht
 output:=hu
 drawn:=hdr
 size:=by rw [hh]; simp
 dom:=fun n hn=>by
  unfold Val.upd
  rw [if_neg]; simp at hn; omega
 frame:=fun b hb _=>by rw [hh,Array.getElem?_push,if_neg (by omega)]
 one:=by simp
 turned:=by simp
 made:=fun i e he=>by
  cases i with
  | zero =>
    simp at he; subst he
    refine ⟨rfl,⟨⟨w.heap.size,0,cap⟩,vs,rest,lo,hi,Val.upd_same _ _ _,rfl,hc.mono (Val.upd_le hb),?_,hfz,hw,hcap⟩,_,Val.upd_same _ _ _,.inl (Nat.le_refl _)⟩
    rw [hh]; simp
  | succ i=>simp at he
 apart:=fun i j l l' hij hi hj=>by simp at hi hj; omega
theorem Eff.turn {P:Program} {β:Val} {w:World} {base n:Nat} {l:Loc} {o:Obj} {e:SO} (hl:β n=some l)
  (hr:OwnRel P β { w with heap:=w.heap.setIfInBounds l.blk o } n e):Eff P β w base [(n,e)] [] β { w with heap:=w.heap.setIfInBounds l.blk o } where
 le:=Val.le_refl β
 os:=rfl
 tape:=rfl
 output:=rfl
 drawn:=Nat.le_refl _
 size:=by simp
 dom:=fun _ _=>rfl
 frame:=fun b _ hn=>by
  have:=hn n e l (by simp) hl
  simp [this]
 one:=fun m a b ha hb=>by simp at ha hb; rw [ha.2,hb.2]
 turned:=fun m a ha=>by simp at ha; rw [ha.1,ha.2]; exact hr
 made:=by simp
 apart:=by simp
theorem qfq {β:Val} {v:SV} {x y:Value} (h:valC v=some x) (hv:v.den β=some y):y=x:=by
 cases v <;> first | (cases h; done) | (cases h; exact (Option.some.inj hv).symm)
theorem q8h {β:Val}:∀ {l:List SV} {xs ys:List Value},qfc l=some xs->SV.denL β l=some ys->ys=xs
 | [],xs,ys,h,hv=>by
   cases h
   exact denL_nil.1 hv
 | v::l,xs,ys,h,hv=>by
   have h:(optC (valC v) none fun x=>optC (qfc l) none fun xs=>some (x::xs))=some xs:=h
   obtain ⟨y,zs,hy,hzs,rfl⟩:=denL_cons.1 hv
   cases h1:valC v with
   | none=>rw [h1] at h; cases h
   | some x =>
     rw [h1] at h
     have h:(optC (qfc l) none fun xs=>some (x::xs))=some xs:=h
     cases h2:qfc l with
     | none=>rw [h2] at h; cases h
     | some us =>
       rw [h2] at h; cases h
       rw [qfq h1 hy,q8h h2 hzs]
theorem qet {v:SV} {x:Value} (h:valC v=some x) (β:Val):v.den β=some x:=by
 cases v <;> first | (cases h; done) | (cases h; rfl)
theorem qfx:∀ {l:List SV} {xs:List Value},qfc l=some xs->∀ β,SV.denL β l=some xs
 | [],xs,h,β=>by cases h; rfl
 | v::l,xs,h,β=>by
   have h:(optC (valC v) none fun x=>optC (qfc l) none fun xs=>some (x::xs))=some xs:=h
   cases h1:valC v with
   | none=>rw [h1] at h; cases h
   | some x =>
     rw [h1] at h
     have h:(optC (qfc l) none fun xs=>some (x::xs))=some xs:=h
     cases h2:qfc l with
     | none=>rw [h2] at h; cases h
     | some us =>
       rw [h2] at h; cases h
       exact denL_cons.2 ⟨_,_,qet h1 β,qfx h2 β,rfl⟩
theorem qgu {β:Val}:∀ {l:List SV} {ks:List SK} {xs:List Value},SV.denL β l=some xs->qjo l ks->SV.denL β (j3b l ks)=some xs
 | [],_,_,h,_=>h
 | v::l,[],xs,h,_=>h
 | v::l,k::ks,xs,h,hf0=>by
   obtain ⟨y,ys,hy,hys,rfl⟩:=denL_cons.1 h
   have hf:v.asVal True (fun x=>fitK k x)/\qjo l ks:=hf0
   clear hf0 h
   refine denL_cons.2 ⟨y,ys,?_,qgu hys hf.2,rfl⟩
   have h1:=hf.1
   cases v
   case val x =>
    have hx:y=x:=(Option.some.inj hy).symm
    subst hx
    exact h1 β
   all_goals exact hy
theorem qr5 {P:Program} {t:TypeId} {β:Val} {l:List SV} {xs:List Value} (h:SV.denL β l=some xs) {f:List SV->R α} {φ:α->Prop} (hf:∀ l',SV.denL β l'=some xs->(f l').Sat φ):(qy1 P t l f).Sat φ:=by
 unfold qy1
 cases skT P 8 t with
 | none=>exact hf l h
 | some ks=>exact fun hk=>hf _ (qgu h hk)
theorem qs5 {P:Program} {t:TypeId} {β:Val} {v:SV} {x:Value} (h:v.den β=some x) {f:SV->R α} {φ:α->Prop} (hf:∀ v',v'.den β=some x->(f v').Sat φ):(q01 P t v f).Sat φ:=by
 unfold q01
 cases v
 case val y =>
  have hy:x=y:=(Option.some.inj h).symm
  subst hy
  show R.Sat (optC (P.underlying t) (f (.val x)) fun d=>qz1 (skD d) x f) φ
  cases P.underlying t with
  | none=>exact hf _ h
  | some d =>
    show R.Sat (qz1 (skD d) x f) φ
    cases skD d with
    | i k=>exact fun hk=>hf _ (hk β)
    | b=>exact fun hk=>hf _ (hk β)
    | s=>exact fun hk=>hf _ (hk β)
    | v=>exact hf _ h
 all_goals exact hf _ h
theorem qo0 {x:Value} (h:fitK (.i .u8) x):x=.int .u8 ((BitVec.ofInt 8 (vNum x)).toNat:Int):=(Option.some.inj (h fun _=>none)).symm
theorem qp0 {xs:List Value} {i:Nat} (h:i<xs.length):xs[i]? = some (atV xs i):=by
 unfold atV
 rw [List.getElem?_eq_getElem h]; rfl
theorem q8a (b o i:Nat):(Addr.mk b o none).add i=⟨b,o+i,none⟩:=by
 unfold Addr.add
 split
 . rename_i h; subst h; rfl
 . rfl
theorem cell?_of {w:World} {b o:Nat} {c:Array Value} {e:TypeId} {fz:Nat × Nat} (h:w.heap[b]? = some (.cells c e fz)):w.cell? ⟨b,o,none⟩=c[o]? := by
 simp [World.cell?,h]
theorem cell?_same {w w':World} {b o:Nat} (h:w'.heap[b]? = w.heap[b]?):w'.cell? ⟨b,o,none⟩=w.cell? ⟨b,o,none⟩:=by
 simp [World.cell?,h]
def SO.cells? : SO->Option Cells
 | .own c _ _=>some c
 | .row c=>some c
 | _=>none
theorem qub {P:Program} {O:Nat->Prop} {w0:World} {β:Val} {H:List SO} {w:World} (h:HeapRel0 P O w0 β H w) {n:Nat} {e:SO} {c:Cells} (he:H[n]? = some e) (hc:e.cells? = some c) :
  ∃ l vs,β n=some l/\CellsRel β c vs/\∀ (i:Nat) (x:Value),vs[i]? = some x->w.cell? ⟨l.blk,l.off+i,none⟩=some x:=by
 have h0:=h.entries n e he
 cases e with
 | own c' wh el =>
   simp [SO.cells?] at hc; subst hc
   obtain ⟨l,vs,rest,lo,hi,hl,h0',hcr,hh,_⟩:=h0
   refine ⟨l,vs,hl,hcr,fun i x hx => ?_⟩
   rw [cell?_of hh,h0',Nat.zero_add]
   simp [List.getElem?_append_left (List.getElem?_eq_some_iff.1 hx).1,hx]
 | row c' =>
   simp [SO.cells?] at hc; subst hc
   obtain ⟨l,vs,hl,hcr,hh⟩:=h0
   refine ⟨l,vs,hl,hcr,fun i x hx => ?_⟩
   obtain ⟨h1,h2,h3⟩:=hh i x hx
   rw [cell?_same (h.keep.block _ h1 h2)]; exact h3
 | loop=>simp [SO.cells?] at hc
 | deferred=>simp [SO.cells?] at hc
 | gone=>simp [SO.cells?] at hc
 | obj=>simp [SO.cells?] at hc
theorem qbz {β:Val} {c:Cells} {vs:List Value} (hc:CellsRel β c vs) {i:SN} {k:Nat} {f:List SV->R α} {φ:α->Prop}
  (hf:∀ l xs,SV.denL β l=some xs->xs.length=k->(∀ (j:Nat) (x:Value),xs[j]? = some x->vs[i.den+j]? = some x)->(f l).Sat φ):(qko c i k f).Sat φ:=by
 cases c with
 | lst l =>
   refine SN.asLit_sat (fun n hn => ?_) (fun _=>trivial)
   subst hn
   refine R.Sat.boolC (fun hb => ?_) (fun _=>trivial)
   have hle:n+k<=l.length:=by rw [← qha]; exact Nat.le_of_ble_eq_true hb
   rw [qoc,qdd]
   have hlen:=qva hc
   refine hf _ _ (qjg (q6h hc n) k) (by simp; omega) (fun j x hx => ?_)
   rw [List.getElem?_take] at hx
   split at hx
   . rw [List.getElem?_drop] at hx; exact hx
   . cases hx
 | fn g n =>
   intro hle
   obtain ⟨hlen,hg⟩:=hc
   rw [qja,qya]
   refine hf _ ((vs.drop i.den).take k) (qkg (by simp; omega) ?_) (by simp; omega) (fun j x hx => ?_)
   . intro j v hv
     simp only [List.getElem?_map,Option.map_eq_some_iff] at hv
     obtain ⟨a,ha,rfl⟩:=hv
     have hj:j<k:=by
      have:=(List.getElem?_eq_some_iff.1 ha).1
      simpa using this
     rw [List.getElem?_range' hj] at ha
     simp at ha; subst ha
     have hlt:i.den+j<vs.length:=by omega
     refine ⟨vs[i.den+j],?_,?_⟩
     . rw [List.getElem?_take,if_pos hj,List.getElem?_drop,List.getElem?_eq_getElem hlt]
     . exact hg (i.den+j) _ (List.getElem?_eq_getElem hlt)
   . rw [List.getElem?_take] at hx
     split at hx
     . rw [List.getElem?_drop] at hx; exact hx
     . cases hx
 | raw V n =>
   intro hle
   obtain ⟨hlen,hg⟩:=hc
   rw [qja,qya]
   refine hf _ ((vs.drop i.den).take k) (qkg (by simp; omega) ?_) (by simp; omega) (fun j x hx => ?_)
   . intro j v hv
     simp only [List.getElem?_map,Option.map_eq_some_iff] at hv
     obtain ⟨a,ha,rfl⟩:=hv
     have hj:j<k:=by
      have:=(List.getElem?_eq_some_iff.1 ha).1
      simpa using this
     rw [List.getElem?_range' hj] at ha
     simp at ha; subst ha
     have hlt:i.den+j<vs.length:=by omega
     refine ⟨vs[i.den+j],?_,?_⟩
     . rw [List.getElem?_take,if_pos hj,List.getElem?_drop,List.getElem?_eq_getElem hlt]
     . show some (V (i.den+j))=_
       rw [← hg (i.den+j) _ (List.getElem?_eq_getElem hlt)]
   . rw [List.getElem?_take] at hx
     split at hx
     . rw [List.getElem?_drop] at hx; exact hx
     . cases hx
theorem qgq {n:SI} {x:BitVec 8} (h:si8 n=some x):n.den=(x.toNat:Int):=by
 cases n with
 | lit n =>
   have h:lit8 n=some x:=h
   cases n with
   | ofNat m =>
     have h:boolC (Nat.blt m 256) (some (BitVec.ofNat 8 m)) none=some x:=h
     cases hm:Nat.blt m 256 with
     | false=>rw [hm] at h; cases h
     | true =>
       rw [hm] at h
       have hm:m<256:=Nat.le_of_ble_eq_true hm
       cases h
       show (m:Int)=_
       rw [BitVec.toNat_ofNat,Nat.mod_eq_of_lt (by omega)]
   | negSucc m=>cases h
 | b8 y=>cases h; rfl
 | sym=>cases h
 | b32=>cases h
 | b64=>cases h
theorem qkj {β:Val} {v:SV} {x:BitVec 8} {y:Value} (h:unb1 v=some x) (hv:v.den β=some y):y=.int .u8 (x.toNat:Int):=by
 cases v <;> first | (cases h; done) | skip
 rename_i k n
 have h:boolC (eqK k .u8) (si8 n) none=some x:=h
 cases hk:eqK k .u8 with
 | false=>rw [hk] at h; cases h
 | true =>
   rw [hk] at h
   have:=qjj hk
   subst this
   cases hv
   rw [qgq h]
theorem qif {β:Val}:∀ {l:List SV} {xs:List (BitVec 8)} {vs:List Value},unb l=some xs->SV.denL β l=some vs->vs.length=xs.length/\∀ i,i<xs.length->vs[i]? = some (.int .u8 ((q4a xs i).toNat:Int))
 | [],xs,vs,h,hv=>by
   cases h
   rw [denL_nil] at hv; subst hv
   exact ⟨rfl,fun i hi=>by simp at hi⟩
 | v::l,xs,vs,h,hv=>by
   have h:(optC (unb1 v) none fun x=>optC (unb l) none fun xs=>some (x::xs))=some xs:=h
   obtain ⟨y,ys,hy,hys,rfl⟩:=denL_cons.1 hv
   cases h1:unb1 v with
   | none=>rw [h1] at h; cases h
   | some x =>
     rw [h1] at h
     have h:(optC (unb l) none fun xs=>some (x::xs))=some xs:=h
     cases h2:unb l with
     | none=>rw [h2] at h; cases h
     | some us =>
       rw [h2] at h; cases h
       obtain ⟨h3,h4⟩:=qif h2 hys
       refine ⟨by simp [h3],fun i hi => ?_⟩
       cases i with
       | zero=>rw [qkj h1 hy]; rfl
       | succ i =>
         have:=h4 i (by simpa using hi)
         exact this
theorem qyl {o n:Nat}:∀ (l:List SV) (k:Nat),qxf o n (noB l k)->∀ (i:Nat) (v:SV),l[i]? = some v->o<=k+i->k+i<o+n->∃ x,unb1 v=some x
 | [],_,_,i,v,h,_,_=>by simp at h
 | a::l,k,hJ,i,v,h,h1,h2=>by
   have hJ:qxf o n (optC (unb1 a) (k::noB l (k+1)) fun _=>noB l (k+1)):=hJ
   cases ha:unb1 a with
   | none =>
     rw [ha] at hJ
     obtain ⟨h3,h4⟩:(k<o\/o+n<=k)/\qxf o n (noB l (k+1)):=hJ
     cases i with
     | zero=>omega
     | succ i=>exact qyl l (k+1) h4 i v (by simpa using h) (by omega) (by omega)
   | some x =>
     rw [ha] at hJ
     have hJ:qxf o n (noB l (k+1)):=hJ
     cases i with
     | zero=>simp at h; subst h; exact ⟨x,ha⟩
     | succ i=>exact qyl l (k+1) hJ i v (by simpa using h) (by omega) (by omega)
theorem qzl {o n:Nat} {Y:Nat->BitVec 8}:∀ (l:List SV) (k i:Nat),(putX o n Y l k)[i]? = (l[i]?).map fun v=>optC (unb1 v) v fun x=>.int .u8 (.b8 (if o<=k+i/\k+i<o+n then Y (k+i - o) else x))
 | [],_,_=>by simp [putX]
 | a::l,k,i=>by
   show (optC (unb1 a) a _::putX o n Y l (k+1))[i]? = _
   cases i with
   | zero=>simp
   | succ i=>rw [List.getElem?_cons_succ,qzl l (k+1) i,List.getElem?_cons_succ,show k+1+i=k+(i+1) from by omega]
theorem qv2 {β:Val} {l:List SV} {vs:List Value} (hc:SV.denL β l=some vs) {off n:Nat} (h1:off+n<=l.length) (h2:qxf off n (noB l 0)):∀ j,j<n->vs[off+j]? = some (.int .u8 ((qxj l (off+j)).toNat:Int)):=by
 intro j hj
 have hlt:off+j<l.length:=by omega
 obtain ⟨x,hx⟩:=qyl l 0 h2 (off+j) _ (List.getElem?_eq_getElem hlt) (by omega) (by omega)
 obtain ⟨y,hy,hd⟩:=qed hc (List.getElem?_eq_getElem hlt)
 rw [hy,qkj hx hd]
 unfold qxj
 rw [qca,List.getElem?_eq_getElem hlt,optC_some,hx,optC_some]
theorem qlg {β:Val} {c:Cells} {vs:List Value} (hc:CellsRel β c vs) {off n:Nat} {f:(Nat->BitVec 8)->R α} {φ:α->Prop}
  (hf:∀ X:Nat->BitVec 8,off+n<=vs.length->(∀ j,j<n->vs[off+j]? = some (.int .u8 ((X j).toNat:Int)))->(f X).Sat φ):(qni c off n f).Sat φ:=by
 cases c with
 | lst l =>
   show R.Sat (optC (unb l) (R.need (off+n<=lenN l/\qxf off n (noB l 0)) (f fun i=>qxj l (off+i))) fun xs=>R.need (off+n<=lenN xs) (f fun i=>q4a xs (off+i))) φ
   cases hx:unb l with
   | none =>
     rintro ⟨h1,h2⟩
     rw [qha] at h1
     have hl:=qva (show SV.denL β l=some vs from hc)
     exact hf _ (by omega) (qv2 hc h1 h2)
   | some xs =>
     intro hn
     rw [qha] at hn
     obtain ⟨h1,h2⟩:=qif hx hc
     exact hf _ (by omega) fun j hj=>h2 _ (by omega)
 | fn g m =>
   rintro ⟨hn,hB⟩
   obtain ⟨h1,h2⟩:=hc
   refine hf _ (by omega) fun j hj => ?_
   have hlt:off+j<vs.length:=by omega
   obtain ⟨x,hx⟩:=hB (off+j)
   have:=h2 (off+j) _ (List.getElem?_eq_getElem hlt)
   rw [hx] at this
   show vs[off+j]? = some (.int .u8 ((byteOf (g (off+j))).toNat:Int))
   rw [hx,List.getElem?_eq_getElem hlt,← this]; rfl
 | raw V m =>
   rintro ⟨hn,hB⟩
   obtain ⟨h1,h2⟩:=hc
   refine hf _ (by omega) fun j hj => ?_
   have hlt:off+j<vs.length:=by omega
   have h3:=h2 (off+j) _ (List.getElem?_eq_getElem hlt)
   rw [List.getElem?_eq_getElem hlt,h3]
   exact congrArg some (qo0 (hB j hj))
theorem q9m {β:Val} {c:Cells} {vs:List Value} (hc:CellsRel β c vs) {off n:Nat} {f:(Nat->Value)->R α} {φ:α->Prop}
  (hf:∀ X:Nat->Value,off+n<=vs.length->(∀ j,j<n->vs[off+j]? = some (X j))->(f X).Sat φ):(qmo c off n f).Sat φ:=by
 cases c with
 | lst l =>
   show R.Sat (optC (qfc l) (R.stuck 901) fun xs=>R.need (off+n<=lenN xs) (f fun i=>atV xs (off+i))) φ
   cases hx:qfc l with
   | none=>trivial
   | some xs =>
     intro hn
     rw [qha] at hn
     obtain rfl:=q8h hx hc
     exact hf _ hn fun j hj=>qp0 (by omega)
 | fn g m =>
   rintro ⟨hn,hB⟩
   obtain ⟨h1,h2⟩:=hc
   refine hf _ (by omega) fun j hj => ?_
   have hlt:off+j<vs.length:=by omega
   obtain ⟨x,hx⟩:=hB j hj
   rw [hx,List.getElem?_eq_getElem hlt,qfq hx (h2 (off+j) _ (List.getElem?_eq_getElem hlt))]
   rfl
 | raw V m =>
   intro hn
   obtain ⟨h1,h2⟩:=hc
   refine hf _ (by omega) fun j hj => ?_
   have hlt:off+j<vs.length:=by omega
   rw [List.getElem?_eq_getElem hlt,h2 (off+j) _ (List.getElem?_eq_getElem hlt)]
theorem qw2 {β:Val} {c:Cells} {vs:List Value} (hc:CellsRel β c vs) {i:SN} {f:SV->R α} {φ:α->Prop}
  (hf:∀ v x,v.den β=some x->vs[i.den]? = some x->(f v).Sat φ):(q6q c i f).Sat φ:=by
 cases c with
 | lst l =>
   cases i with
   | lit n =>
     refine R.Sat.opt fun v hv => ?_
     rw [qca] at hv
     obtain ⟨x,hx,hd⟩:=qed hc hv
     exact hf v x hd hx
   | sym n =>
     show R.Sat (optC (unb l) (R.stuck 203) fun xs=>R.need (n<lenN xs) (f (.int .u8 (.b8 (q4a xs n))))) φ
     cases hx:unb l with
     | none=>trivial
     | some xs =>
       intro hn
       rw [qha] at hn
       exact hf _ _ rfl ((qif hx hc).2 n hn)
   | byt o y =>
     show R.Sat (optC (unb l) (R.stuck 203) fun xs=>boolC (Nat.ble (o+256) (lenN xs)) (f (.int .u8 (.b8 (q4a xs (o+y.toNat))))) (R.need (o+y.toNat<lenN xs) (f (.int .u8 (.b8 (q4a xs (o+y.toNat))))))) φ
     cases hx:unb l with
     | none=>trivial
     | some xs =>
       have key:o+y.toNat<lenN xs->(f (.int .u8 (.b8 (q4a xs (o+y.toNat))))).Sat φ:=fun hn=>by
        rw [qha] at hn
        exact hf _ _ rfl ((qif hx hc).2 _ hn)
       refine R.Sat.boolC (fun hb=>key ?_) fun _=>key
       have hb:o+256<=lenN xs:=Nat.le_of_ble_eq_true hb
       have:=y.isLt
       omega
 | fn g n =>
   obtain ⟨hlen,hg⟩:=hc
   have key:∀ j,i.den=j->j<n->(f (g j)).Sat φ:=by
    intro j hj hlt
    have hlt':j<vs.length:=by omega
    exact hf _ _ (hg j _ (List.getElem?_eq_getElem hlt')) (by rw [hj]; exact List.getElem?_eq_getElem hlt')
   cases i with
   | lit j=>exact fun hlt=>key j rfl hlt
   | sym j=>exact fun hlt=>key j rfl hlt
   | byt o x=>exact fun hlt=>key _ rfl hlt
 | raw V n =>
   obtain ⟨hlen,hg⟩:=hc
   intro hlt
   have hlt':i.den<vs.length:=by omega
   have hx:=hg i.den _ (List.getElem?_eq_getElem hlt')
   exact hf _ vs[i.den] (by rw [hx]; rfl) (List.getElem?_eq_getElem hlt')
theorem SA.den_some {β:Val} {a:SA} {A:Addr} (h:a.den β=some A):∃ l,β a.nm=some l/\A=⟨l.blk,l.off+a.off.den,none⟩:=by
 unfold SA.den at h
 cases hb:β a.nm with
 | none=>rw [hb] at h; cases h
 | some l=>rw [hb] at h; cases h; exact ⟨l,rfl,rfl⟩
theorem SA.plus_den {β:Val} {a:SA} {A:Addr} (h:a.den β=some A) (n:SN):(a.plus n).den β=some (A.add n.den):=by
 obtain ⟨l,hl,rfl⟩:=SA.den_some h
 simp [SA.plus,SA.den,hl,SN.add_den,q8a,Nat.add_assoc]
theorem qgb {H:List SO} {a:SA} {f:SO->R α} {φ:α->Prop} (h:∀ e,H[a.nm]? = some e->(f e).Sat φ):(entry H a f).Sat φ:=by
 refine R.Sat.opt fun e he => ?_
 rw [qca] at he; exact h e he
section
variable {P:Program} {O:Nat->Prop} {w0:World} {β:Val} {H:List SO} {w:World} (hr:HeapRel0 P O w0 β H w)
include hr
theorem q9h {a:SA} {A:Addr} (ha:a.den β=some A) {k:Nat} {f:List SV->R α} {φ:α->Prop}
  (hf:∀ l xs,SV.denL β l=some xs->xs.length=k->(∀ (j:Nat) (x:Value),xs[j]? = some x->w.cell? (A.add j)=some x)->(f l).Sat φ):(qno H a k f).Sat φ:=by
 refine qgb fun e he => ?_
 have key:∀ c,e.cells? = some c->(qko c a.off k f).Sat φ:=by
  intro c hc
  obtain ⟨l,vs,hl,hcr,hcell⟩:=qub hr he hc
  obtain ⟨l',hl',rfl⟩:=SA.den_some ha
  rw [hl] at hl'; cases hl'
  refine qbz hcr fun ll xs h1 h2 h3=>hf ll xs h1 h2 fun j x hx => ?_
  rw [q8a,Nat.add_assoc]
  exact hcell _ _ (h3 j x hx)
 cases e with
 | own c wh el=>exact key c rfl
 | row c=>exact key c rfl
 | loop=>trivial
 | deferred=>trivial
 | gone=>trivial
 | obj=>trivial
theorem qhu {a:SA} {A:Addr} (ha:a.den β=some A) {f:SV->R α} {φ:α->Prop}
  (hf:∀ v x,v.den β=some x->w.cell? A=some x->(f v).Sat φ):(q11 H a f).Sat φ:=by
 refine qgb fun e he => ?_
 have key:∀ c,e.cells? = some c->(q6q c a.off f).Sat φ:=by
  intro c hc
  obtain ⟨l,vs,hl,hcr,hcell⟩:=qub hr he hc
  obtain ⟨l',hl',rfl⟩:=SA.den_some ha
  rw [hl] at hl'; cases hl'
  exact qw2 hcr fun v x h1 h2=>hf v x h1 (hcell _ _ h2)
 cases e with
 | own c wh el=>exact key c rfl
 | row c=>exact key c rfl
 | loop=>trivial
 | deferred=>trivial
 | gone=>trivial
 | obj=>trivial
end
theorem qhp (P:Program) (w:World) (A:Addr):∀ (xs:List Value) (i:Nat) (acc:Array Value),
  (∀ (j:Nat) (x:Value),xs[j]? = some x->w.cell? (A.add (i+j))=some x)->(loadCellsFrom A i xs.length acc).run P w=.ok (acc++xs.toArray) w:=by
 intro xs
 induction xs with
 | nil=>intro i acc _; simp [loadCellsFrom]
 | cons x xs ih =>
   intro i acc h
   have h0:=h 0 x rfl
   simp only [List.length_cons,loadCellsFrom,Sem.run_bind,run_load]
   rw [show A.add i=A.add (i+0) from rfl,h0]
   simp only [Result.andThen_ok]
   rw [ih (i+1) (acc.push x) (fun j y hy=>by rw [show i+1+j=i+(j+1) from by omega]; exact h (j+1) y hy)]
   simp
theorem q9f {P:Program} {w:World} {A:Addr} {xs:List Value} {k:Nat} (hk:xs.length=k) (h:∀ (j:Nat) (x:Value),xs[j]? = some x->w.cell? (A.add j)=some x) :
  (loadCells A k).run P w=.ok xs.toArray w:=by
 subst hk
 unfold loadCells
 rw [qhp P w A xs 0 #[] (fun j x hx=>by rw [Nat.zero_add]; exact h j x hx)]
 simp
theorem qaa {P:Program} {w:World} {t:TypeId} {d:TypeDesc} (h:P.underlying t=some d):(underlying t).run P w=.ok d w:=by
 simp [underlying,h]
theorem q9d {P:Program} {w:World} {t:TypeId} {i:TypeInfo} (h:P.info? t=some i):(typeInfo t).run P w=.ok i w:=by
 simp [typeInfo,h]
theorem q3a {P:Program} {w:World} {t:TypeId} {i:TypeInfo} (h:P.info? t=some i):(sizeOf t).run P w=.ok i.size w:=by
 simp [sizeOf,q9d h]
theorem qan {P:Program} {w:World} {t:TypeId} {d:TypeDesc} (h:P.underlying t=some d):(isAgg t).run P w=.ok (qbc d) w:=by
 cases d <;> simp [isAgg,qaa h,qbc]
section
variable {P:Program} {O:Nat->Prop} {w0:World} {β:Val} {H:List SO} {w:World} (hr:HeapRel0 P O w0 β H w)
include hr
theorem qiu {t:TypeId} {a:SA} {A:Addr} (ha:a.den β=some A) {f:SV->R α} {φ:α->Prop}
  (hf:∀ v x,v.den β=some x->(loadVar t A).run P w=.ok x w->(f v).Sat φ):(q21 P H t a f).Sat φ:=by
 refine R.Sat.opt fun d hd => ?_
 have hagg:=qan (w:=w) hd
 refine R.Sat.boolC (fun _ => ?_) fun _ => ?_
 . refine R.Sat.boolC (fun hb => ?_) (fun hb => ?_)
   . refine R.Sat.opt fun i hi=>q9h hr ha fun l xs h1 h2 h3=>qr5 h1 fun l' h1'=>hf _ (.agg xs.toArray) (by simp [SV.den,h1']) ?_
     simp [loadVar,hagg,hb,q3a hi,q9f h2 h3]
   . refine qhu hr ha fun v x h1 h2=>qs5 h1 fun v' h1'=>hf _ x h1' ?_
     simp [loadVar,hagg,hb,h2]
 . refine R.Sat.boolC (fun hb => ?_) (fun hb => ?_)
   . refine R.Sat.opt fun i hi=>q9h hr ha fun l xs h1 h2 h3=>hf _ (.agg xs.toArray) (by simp [SV.den,h1]) ?_
     simp [loadVar,hagg,hb,q3a hi,q9f h2 h3]
   . refine qhu hr ha fun v x h1 h2=>hf _ x h1 ?_
     simp [loadVar,hagg,hb,h2]
end
theorem qx2 {β:Val} {v:SV} {x:Value} (hs:qcj v=true) (hv:v.den β=some x):x.oneCell'=true:=by
 cases v <;> simp only [SV.den,Option.map_eq_some_iff,Option.bind_eq_some_iff,Option.some.injEq] at hv
 case int=>subst hv; rfl
 case bool=>subst hv; rfl
 case str=>subst hv; rfl
 case ptr=>obtain ⟨_,_,rfl⟩:=hv; rfl
 case nilPtr=>subst hv; rfl
 case slice=>obtain ⟨_,_,_,_,h⟩:=hv; rw [q5h] at h; obtain ⟨_,rfl⟩:=h; rfl
 case nilSlice=>subst hv; rfl
 case map=>obtain ⟨_,_,rfl⟩:=hv; rfl
 case nilMap=>subst hv; rfl
 case func=>obtain ⟨_,_,_,_,_,_,rfl⟩:=hv; rfl
 case nilFunc=>subst hv; rfl
 case iface=>obtain ⟨_,_,rfl⟩:=hv; rfl
 case nilIface=>subst hv; rfl
 case agg=>cases hs
 case tuple=>cases hs
 case val=>cases hs
 case tail =>
  obtain ⟨_,_,_,_,h⟩:=hv; rw [qij] at h; obtain ⟨_,rfl⟩:=h; rfl
theorem q0l {β:Val} {l:List SV} {xs:List Value} (h:SV.denL β l=some xs) (hs:allN qcj l=true):∀ x∈xs,x.oneCell'=true:=by
 intro x hx
 obtain ⟨i,hi⟩:=List.getElem?_of_mem hx
 have hlt:=(List.getElem?_eq_some_iff.1 hi).1
 rw [qva h] at hlt
 obtain ⟨y,hy,hd⟩:=qed h (List.getElem?_eq_getElem hlt)
 rw [hi] at hy; cases hy
 exact qx2 (q2j _ _ hs _ (List.getElem_mem hlt)) hd
def qvb (c:List Value) (i:Nat) (v:List Value):List Value:=c.take i++v++c.drop (i+v.length)
theorem q6a {c:List Value} {i:Nat} {v:List Value} (h:i+v.length<=c.length):(qvb c i v).length=c.length:=by
 simp [qvb]; omega
theorem qju (c:List Value) (i:Nat):qvb c i []=c:=by simp [qvb]
theorem qur {c:List Value} {i:Nat} {x:Value} {v:List Value} (h:i+(x::v).length<=c.length):qvb (c.set i x) (i+1) v=qvb c i (x::v):=by
 simp only [qvb,List.length_cons] at *
 rw [List.set_eq_take_append_cons_drop,if_pos (by omega)]
 have hl:(c.take i).length=i:=by simp; omega
 have e1:(c.take i++x::c.drop (i+1)).take (i+1)=c.take i++[x]:=by
  rw [List.take_append,hl,List.take_of_length_le (by omega)]
  simp
 have e2:(c.take i++x::c.drop (i+1)).drop (i+1+v.length)=c.drop (i+(v.length+1)):=by
  rw [List.drop_append,hl,List.drop_of_length_le (by omega),show i+1+v.length - i=v.length+1 from by omega]
  simp [List.drop_drop]
  congr 1; omega
 rw [e1,e2]; simp
theorem qlc {P:Program} {b:Nat} {e:TypeId} {lo hi:Nat}:∀ (v c:List Value) (o i:Nat) (w:World),w.heap[b]? = some (.cells c.toArray e (lo,hi))->(∀ x∈v,x.oneCell'=true) ->
  (∀ j,j<c.length->¬ (lo<=j/\j<hi))->o+i+v.length<=c.length ->
  (storeCells ⟨b,o,none⟩ v i).run P w=.ok () { w with heap:=w.heap.setIfInBounds b (.cells (qvb c (o+i) v).toArray e (lo,hi)) }:=by
 intro v
 induction v with
 | nil =>
   intro c o i w hb _ _ _
   have:w.heap.setIfInBounds b (.cells c.toArray e (lo,hi))=w.heap:=by
    apply Array.ext_getElem?
    intro j
    rw [Array.getElem?_setIfInBounds]
    split
    . rename_i h; subst h
      have hlt:=(Array.getElem?_eq_some_iff.1 hb).1
      rw [if_pos hlt,hb]
    . rfl
   rw [qju,this]; rfl
 | cons x v ih =>
   intro c o i w hb h1 hfz hle
   simp only [List.length_cons] at hle
   have hlt:b<w.heap.size:=(Array.getElem?_eq_some_iff.1 hb).1
   have hcell:w.cell? (Addr.add ⟨b,o,none⟩ i)=some (c[o+i]'(by omega)):=by
    rw [q8a,cell?_of hb]; simp
   have hfr:w.frozen? (Addr.add ⟨b,o,none⟩ i)=false:=by
    rw [q8a]
    have:=hfz (o+i) (by omega)
    simp only [World.frozen?,hb]
    simp; omega
   have hset:w.setCell (Addr.add ⟨b,o,none⟩ i) x={ w with heap:=w.heap.setIfInBounds b (.cells (c.set (o+i) x).toArray e (lo,hi)) }:=by
    rw [q8a]
    simp only [World.setCell]
    congr 1
    apply Array.ext_getElem?
    intro j
    rw [Array.getElem?_modify,Array.getElem?_setIfInBounds]
    split
    . rename_i h; subst h
      simp only [hb,Option.map_some]
      simp
    . rfl
   have hst:(storeCells ⟨b,o,none⟩ (x::v) i).run P w=(storeCells ⟨b,o,none⟩ v (i+1)).run P (w.setCell (Addr.add ⟨b,o,none⟩ i) x):=by
    simp only [storeCells,Sem.run_bind]
    have:(store (Addr.add ⟨b,o,none⟩ i) x).run P w=.ok () (w.setCell (Addr.add ⟨b,o,none⟩ i) x):=by
     have ho:=h1 x (by simp)
     cases x <;> first | (cases ho; done) | simp [store,Sem.run,hcell,hfr]
    rw [this]; rfl
   rw [hst,hset]
   have hb':({ w with heap:=w.heap.setIfInBounds b (.cells (c.set (o+i) x).toArray e (lo,hi)) }:World).heap[b]? = some (.cells (c.set (o+i) x).toArray e (lo,hi)):=by
    simp [hlt]
   rw [ih (c.set (o+i) x) o (i+1) _ hb' (fun y hy=>h1 y (List.mem_cons_of_mem _ hy)) (fun j hj=>hfz j (by simpa using hj)) (by simp; omega)]
   rw [show o+(i+1)=o+i+1 from by omega,qur (by simp; omega)]
   simp
theorem q5e {a b:List Value} {i:Nat} {v:List Value} (h:i+v.length<=a.length):qvb (a++b) i v=qvb a i v++b:=by
 simp only [qvb]
 rw [List.take_append_of_le_length (by omega),List.drop_append_of_le_length (by omega)]
 simp
theorem qvr {β:Val}:∀ ys:List (BitVec 8),SV.denL β (mapN (fun x=>SV.int .u8 (.b8 x)) ys)=some (ys.map fun x=>Value.int .u8 (x.toNat:Int))
 | []=>rfl
 | _::ys=>denL_cons.2 ⟨_,_,rfl,qvr ys,rfl⟩
theorem q1l (o n:Nat) (Y:Nat->BitVec 8):∀ (xs:List (BitVec 8)) (k i:Nat),(putB o n Y xs k)[i]? = (xs[i]?).map fun x=>if o<=k+i/\k+i<o+n then Y (k+i - o) else x
 | [],k,i=>by simp [putB]
 | x::xs,k,0=>by
   show ((if o<=k/\k<o+n then Y (k - o) else x)::putB o n Y xs (k+1))[0]? = _
   simp
 | x::xs,k,i+1=>by
   show ((if o<=k/\k<o+n then Y (k - o) else x)::putB o n Y xs (k+1))[i+1]? = _
   rw [List.getElem?_cons_succ,q1l o n Y xs (k+1) i,List.getElem?_cons_succ,show k+1+i=k+(i+1) from by omega]
theorem qai {vs xs:List Value} {o:Nat} (h:o+xs.length<=vs.length) (i:Nat):(qvb vs o xs)[i]? = if o<=i/\i<o+xs.length then xs[i - o]? else vs[i]? := by
 unfold qvb
 rw [List.append_assoc,List.getElem?_append,List.getElem?_append,List.length_take,Nat.min_eq_left (by omega),List.getElem?_take,List.getElem?_drop]
 by_cases h1:i<o
 . rw [if_pos h1,if_pos h1,if_neg (by omega)]
 . rw [if_neg h1]
   by_cases h2:i<o+xs.length
   . rw [if_pos (by omega),if_pos (by omega)]
   . rw [if_neg (by omega),if_neg (by omega),show o+xs.length+(i - o - xs.length)=i from by omega]
theorem qgx {β:Val} {c:Cells} {vs:List Value} (hc:CellsRel β c vs) {o n:Nat} {Y:Nat->BitVec 8} {xs:List Value} (hl:xs.length=n) (hY:∀ j,j<n->xs[j]? = some (.int .u8 ((Y j).toNat:Int))) {f:Cells->R α} {φ:α->Prop}
  (hf:∀ c',CellsRel β c' (qvb vs o xs)->o+xs.length<=vs.length->(f c').Sat φ):(putC c o n Y f).Sat φ:=by
 cases c with
 | lst l =>
   show R.Sat (optC (unb l) (R.need (o+n<=lenN l/\qxf o n (noB l 0)) (f (.lst (putX o n Y l 0)))) fun us=>R.need (o+n<=lenN us) (f (.lst (mapN (fun x=>.int .u8 (.b8 x)) (putB o n Y us 0))))) φ
   cases hx:unb l with
   | none =>
     rintro ⟨h1,h2⟩
     rw [qha] at h1
     have hcl:SV.denL β l=some vs:=hc
     have hlen:=qva hcl
     refine hf _ ?_ (by omega)
     show SV.denL β (putX o n Y l 0)=some _
     refine qkg ?_ fun i v hv => ?_
     . rw [q6a (by omega),hlen]
       apply Nat.le_antisymm
       . rcases Nat.lt_or_ge (putX o n Y l 0).length l.length with h | h
         . have:=qzl (o:=o) (n:=n) (Y:=Y) l 0 (putX o n Y l 0).length
           rw [List.getElem?_eq_none (Nat.le_refl _),List.getElem?_eq_getElem h] at this
           cases this
         . exact h
       . rcases Nat.lt_or_ge l.length (putX o n Y l 0).length with h | h
         . have:=qzl (o:=o) (n:=n) (Y:=Y) l 0 l.length
           rw [List.getElem?_eq_none (Nat.le_refl l.length),List.getElem?_eq_getElem h] at this
           cases this
         . exact h
     . rw [qzl,Nat.zero_add] at hv
       cases hli:l[i]? with
       | none=>rw [hli] at hv; cases hv
       | some u =>
         rw [hli] at hv
         have hv:optC (unb1 u) u (fun x=>.int .u8 (.b8 (if o<=i/\i<o+n then Y (i - o) else x)))=v:=Option.some.inj hv
         obtain ⟨y,hy,hd⟩:=qed hcl hli
         rw [qai (by omega),hl]
         by_cases hin:o<=i/\i<o+n
         . obtain ⟨x,hx⟩:=qyl l 0 h2 i u hli (by omega) (by omega)
           rw [hx,optC_some,if_pos hin] at hv
           subst hv
           exact ⟨.int .u8 ((Y (i - o)).toNat:Int),by rw [if_pos hin,hY (i - o) (by omega)],rfl⟩
         . rw [if_neg hin]
           refine ⟨y,hy,?_⟩
           cases hu:unb1 u with
           | none=>rw [hu] at hv; rw [← hv]; exact hd
           | some x =>
             rw [hu,optC_some,if_neg hin] at hv
             rw [← hv,qkj hu hd]
             rfl
   | some us =>
     intro hn
     rw [qha] at hn
     obtain ⟨h1,h2⟩:=qif hx hc
     refine hf _ ?_ (by omega)
     show SV.denL β _=some _
     rw [qvr]
     congr 1
     apply List.ext_getElem?
     intro i
     rw [List.getElem?_map,q1l,qai (by omega),Nat.zero_add,hl]
     by_cases hi:i<us.length
     . rw [List.getElem?_eq_getElem hi]
       by_cases hin:o<=i/\i<o+n
       . rw [if_pos hin,hY (i - o) (by omega)]
         simp [hin]
       . rw [if_neg hin,h2 i hi]
         simp only [Option.map_some,if_neg hin,q4a,List.getElem?_eq_getElem hi,Option.getD_some]
     . rw [List.getElem?_eq_none (by omega),if_neg (by omega),List.getElem?_eq_none (by omega)]; rfl
 | fn g m =>
   rintro ⟨hn,hB⟩
   obtain ⟨h1,h2⟩:=hc
   refine hf _ ⟨by rw [q6a (by omega)]; exact h1,fun i y hy => ?_⟩ (by omega)
   rw [qai (by omega),hl] at hy
   by_cases hin:o<=i/\i<o+n
   . rw [if_pos hin,hY (i - o) (by omega)] at hy
     show some (Value.int .u8 (((if o<=i/\i<o+n then Y (i - o) else byteOf (g i)).toNat:Nat):Int))=_
     rw [if_pos hin]; exact hy
   . rw [if_neg hin] at hy
     obtain ⟨x,hx⟩:=hB i
     have:=h2 i y hy
     rw [hx] at this
     show some (Value.int .u8 (((if o<=i/\i<o+n then Y (i - o) else byteOf (g i)).toNat:Nat):Int))=_
     rw [if_neg hin,hx]; exact this
 | raw V m =>
   intro hn
   obtain ⟨h1,h2⟩:=hc
   refine hf _ ⟨by rw [q6a (by omega)]; exact h1,fun i y hy => ?_⟩ (by omega)
   rw [qai (by omega),hl] at hy
   unfold qmc
   by_cases hin:o<=i/\i<o+n
   . rw [if_pos hin,hY (i - o) (by omega)] at hy
     rw [if_pos hin]; exact (Option.some.inj hy).symm
   . rw [if_neg hin] at hy
     rw [if_neg hin]; exact h2 i y hy
theorem qhx {β:Val} {c:Cells} {vs:List Value} (hc:CellsRel β c vs) {o n:Nat} {Y:Nat->Value} {xs:List Value} (hl:xs.length=n) (hY:∀ j,j<n->xs[j]? = some (Y j)) {f:Cells->R α} {φ:α->Prop}
  (hf:∀ c',CellsRel β c' (qvb vs o xs)->o+xs.length<=vs.length->(f c').Sat φ):(putR c o n Y f).Sat φ:=by
 have key:∀ (V:Nat->Value) (m:Nat),vs.length=m->(∀ (i:Nat) (x:Value),vs[i]? = some x->x=V i)->o+n<=m->(f (.raw (qmc V o n Y) m)).Sat φ:=by
  intro V m h1 h2 hn
  refine hf _ ⟨by rw [q6a (by omega)]; exact h1,fun i y hy => ?_⟩ (by omega)
  rw [qai (by omega),hl] at hy
  unfold qmc
  by_cases hin:o<=i/\i<o+n
  . rw [if_pos hin,hY (i - o) (by omega)] at hy
    rw [if_pos hin]; exact (Option.some.inj hy).symm
  . rw [if_neg hin] at hy
    rw [if_neg hin]; exact h2 i y hy
 cases c with
 | lst l =>
   show R.Sat (optC (qfc l) (R.stuck 903) fun xs=>R.need (o+n<=lenN xs) (f (.raw (qmc (atV xs) o n Y) (lenN xs)))) φ
   cases hx:qfc l with
   | none=>trivial
   | some us =>
     intro hn
     obtain rfl:=q8h hx hc
     refine key _ _ (qha _).symm (fun i x hi => ?_) hn
     unfold atV
     rw [hi]; rfl
 | fn g m =>
   rintro ⟨hn,hB⟩
   refine key _ _ hc.1 (fun i x hi => ?_) hn
   have him:i<m:=by rw [← hc.1]; exact (List.getElem?_eq_some_iff.1 hi).1
   obtain ⟨y,hy⟩:=hB i him
   rw [hy,qfq hy (hc.2 i x hi)]
   rfl
 | raw V m=>exact fun hn=>key V m hc.1 hc.2 hn
theorem qfk {β:Val} {c:Cells} {vs:List Value} (hc:CellsRel β c vs) {i:SN} {v:List SV} {xs:List Value} (hv:SV.denL β v=some xs) {f:Cells->R α} {φ:α->Prop}
  (hf:∀ c',CellsRel β c' (qvb vs i.den xs)->i.den+xs.length<=vs.length->(f c').Sat φ):(qlo c i v f).Sat φ:=by
 have hvl:=qva hv
 cases c with
 | lst l =>
   refine SN.asLit_sat (fun n hn => ?_) (fun _ => ?hsym)
   case hsym =>
    cases v with
    | nil=>trivial
    | cons x r =>
      cases r with
      | cons=>trivial
      | nil =>
        show R.Sat (optC (unb1 x) (R.stuck 205) fun b=>putC (.lst l) i.den 1 (fun _=>b) f) φ
        cases hb:unb1 x with
        | none=>trivial
        | some b =>
          obtain ⟨y,ys,hy,hys,rfl⟩:=denL_cons.1 hv
          rw [denL_nil] at hys; subst hys
          have hyb:=qkj hb hy
          exact qgx (n:=1) (xs:=[y]) hc rfl (fun j hj=>by rw [show j=0 from by omega,hyb]; rfl) hf
   subst hn
   refine R.Sat.boolC (fun hb => ?_) (fun _=>trivial)
   have hle:n+v.length<=l.length:=by
    have:=Nat.le_of_ble_eq_true hb
    rw [qha,qha] at this; exact this
   have hlen:=qva hc
   refine hf _ ?_ (by simp only [SN.den]; omega)
   rw [qdq _ _ _ hle]
   simp only [CellsRel,qvb,SN.den,hvl]
   exact qyd (qyd (qjg hc n) hv) (q6h hc _)
 | fn g n =>
   obtain ⟨hlen,hg⟩:=hc
   have key:∀ g':Nat->SV,(∀ j,g' j=if i.den<=j/\j<i.den+v.length then (v[j - i.den]?).getD (g j) else g j)->i.den+v.length<=n->(f (.fn g' n)).Sat φ:=by
    intro g' hg' hle
    refine hf _ ⟨?_,fun j x hx => ?_⟩ (by omega)
    . rw [q6a (by omega)]; exact hlen
    . rw [hg' j]
      simp only [qvb,List.append_assoc,List.getElem?_append,List.length_take,List.getElem?_take,List.getElem?_drop] at hx
      have hmin:min i.den vs.length=i.den:=by omega
      rw [hmin] at hx
      by_cases h1:j<i.den
      . rw [if_pos h1,if_pos h1] at hx
        rw [if_neg (by omega)]
        exact hg j x hx
      . rw [if_neg h1] at hx
        by_cases h2:j<i.den+v.length
        . rw [if_pos (by omega)] at hx
          rw [if_pos ⟨by omega,h2⟩]
          have hjv:j - i.den<v.length:=by omega
          obtain ⟨y,hy,hd⟩:=qed hv (List.getElem?_eq_getElem hjv)
          rw [hx] at hy; cases hy
          rw [List.getElem?_eq_getElem hjv]; exact hd
        . rw [if_neg (by omega)] at hx
          rw [if_neg (by omega)]
          refine hg j x ?_
          rw [← hx]; congr 1; omega
   show (wrFn g n i v f).Sat φ
   unfold wrFn
   split
   . rename_i x
     intro hlt
     refine key _ (fun j => ?_) (by simp; omega)
     by_cases h:j=i.den
     . subst h; simp
     . rw [if_neg h,if_neg (by simp; omega)]
   . intro hle
     rw [qha] at hle
     refine key _ (fun j => ?_) hle
     by_cases h:i.den<=j
     . rw [if_pos h,qca]
       by_cases h2:j<i.den+v.length
       . rw [if_pos ⟨h,h2⟩]
       . rw [if_neg (by omega),List.getElem?_eq_none (by omega)]; rfl
     . rw [if_neg h,if_neg (by omega)]
 | raw V n =>
   show R.Sat (optC (qfc v) (R.stuck 900) fun xs=>R.need (i.den+lenN xs<=n) (f (.raw (qmc V i.den (lenN xs) (atV xs)) n))) φ
   cases hx:qfc v with
   | none=>trivial
   | some us =>
     intro hn
     obtain rfl:=q8h hx hv
     exact qhx (c:=.raw V n) (n:=lenN xs) hc (qha _).symm (fun j hj=>qp0 (by rw [qha] at hj; exact hj)) hf hn
end
noncomputable section
variable {α:Type}
theorem qwr (β:Val) (v:Value):(qrk v).den β=some v:=by
 unfold qrk
 split <;> first | rfl | simp [SV.den,SI.den,SB.den,SStr.den]
theorem qbn (β:Val) (l:List Value):SV.denL β (mapN qrk l)=some l:=by
 induction l with
 | nil=>rfl
 | cons v l ih=>exact denL_cons.2 ⟨v,l,qwr β v,ih,rfl⟩
theorem q0g (β:Val) (v:Value):(q1q v).den β=some v:=by
 unfold q1q
 split
 . simp [SV.den,qbn]
 . rfl
 . rfl
 . exact qwr β v
theorem qfe {P:Program} {t:TypeId} {l:List SV} (h:qoi P t=some l):∃ i v,P.info? t=some i/\i.zero=some v/\∀ β,SV.denL β l=some v.cells.toList:=by
 simp only [qoi,Option.map_eq_some_iff,Option.bind_eq_some_iff] at h
 obtain ⟨v,⟨i,hi,hv⟩,rfl⟩:=h
 exact ⟨i,v,hi,hv,fun β=>qbn β _⟩
theorem qvc {P:Program} {w:World} {t:TypeId} {i:TypeInfo} {v:Value} (h:P.info? t=some i) (hv:i.zero=some v):(zeroValue t).run P w=.ok v w:=by
 simp [zeroValue,q9d h,hv]
theorem qy2 (β:Val) (l:List Value):SV.denL β (mapN SV.val l)=some l:=by
 induction l with
 | nil=>rfl
 | cons v l ih=>exact denL_cons.2 ⟨v,l,rfl,ih,rfl⟩
theorem q2l {β:Val} {v:SV} {x:Value} (h:v.den β=some x):SV.denL β (qug v)=some x.cells.toList:=by
 cases v
 case agg l =>
  simp only [SV.den,Option.map_eq_some_iff] at h; obtain ⟨l,hl,rfl⟩:=h; exact hl
 case val v =>
  simp only [SV.den,Option.some.injEq] at h; subst h; exact qy2 β _
 all_goals
  refine denL_cons.2 ⟨x,[],h,rfl,?_⟩
  simp only [SV.den,Option.map_eq_some_iff,Option.bind_eq_some_iff,Option.some.injEq] at h
 case int=>subst h; rfl
 case bool=>subst h; rfl
 case str=>subst h; rfl
 case ptr=>obtain ⟨_,_,rfl⟩:=h; rfl
 case nilPtr=>subst h; rfl
 case slice=>obtain ⟨_,_,_,_,h⟩:=h; rw [q5h] at h; obtain ⟨_,rfl⟩:=h; rfl
 case nilSlice=>subst h; rfl
 case tail=>obtain ⟨_,_,_,_,h⟩:=h; rw [qij] at h; obtain ⟨_,rfl⟩:=h; rfl
 case map=>obtain ⟨_,_,rfl⟩:=h; rfl
 case nilMap=>subst h; rfl
 case func=>obtain ⟨_,_,_,_,_,_,rfl⟩:=h; rfl
 case nilFunc=>subst h; rfl
 case iface=>obtain ⟨_,_,rfl⟩:=h; rfl
 case nilIface=>subst h; rfl
 case tuple=>obtain ⟨_,_,rfl⟩:=h; rfl
theorem qcz (v:List Value):∀ (k off:Nat) (c:Array Value),off+k+v.length<=c.size ->
  ((v.zipIdx k).foldl (fun (cs:Array Value) (x:Value × Nat)=>cs.setIfInBounds (off+x.2) x.1) c).toList=qvb c.toList (off+k) v:=by
 induction v with
 | nil=>intro k off c _; simp [qju]
 | cons x v ih =>
   intro k off c h
   simp only [List.length_cons] at h
   rw [List.zipIdx_cons,List.foldl_cons,ih (k+1) off _ (by simp; omega)]
   rw [Array.toList_setIfInBounds,show off+(k+1)=off+k+1 from by omega,qur (by simp; omega)]
theorem qcn {β:Val} (place:Nat->Option (Nat × Nat)):∀ (parts:List (Nat × SV)) (parts':List (Nat × Value)) (cells:List SV) (cs:List Value) (r:List SV),
  SV.denL β (parts.map (·.2))=some (parts'.map (·.2))->parts.map (·.1)=parts'.map (·.1)->SV.denL β cells=some cs->qkl place cells parts=some r ->
  ∃ rs,Instr.fill place cs.toArray parts'=some rs.toArray/\SV.denL β r=some rs/\rs.length=cs.length:=by
 intro parts
 induction parts with
 | nil =>
   intro parts' cells cs r h1 h2 h3 h4
   cases parts' with
   | cons=>simp at h2
   | nil=>simp [qkl] at h4; subst h4; exact ⟨cs,rfl,h3,rfl⟩
 | cons p parts ih =>
   intro parts' cells cs r h1 h2 h3 h4
   cases parts' with
   | nil=>simp at h2
   | cons p' parts' =>
     obtain ⟨i,v⟩:=p
     obtain ⟨i',v'⟩:=p'
     simp only [List.map_cons,List.cons.injEq] at h2
     obtain ⟨rfl,h2⟩:=h2
     obtain ⟨y,ys,hy,hys,he⟩:=denL_cons.1 h1
     simp only [List.map_cons,List.cons.injEq] at he
     obtain ⟨rfl,rfl⟩:=he
     simp only [qkl] at h4
     simp only [Instr.fill]
     cases hp:place i with
     | none=>rw [hp] at h4; cases h4
     | some os =>
       obtain ⟨off,size⟩:=os
       rw [hp] at h4
       simp only at h4 ⊢
       have hcv:=q2l hy
       have hl1:lenN (qug v)=v'.cells.size:=by rw [qha]; have:=qva hcv; simpa using this.symm
       have hl2:lenN cells=cs.length:=by rw [qha]; exact (qva h3).symm
       rw [hl1,hl2] at h4
       by_cases hcond:v'.cells.size≠size\/off+v'.cells.size > cs.length
       . rw [if_pos hcond] at h4; cases h4
       . rw [if_neg hcond] at h4
         have hle:off+v'.cells.size<=cs.length:=by
          rcases Nat.lt_or_ge cs.length (off+v'.cells.size) with h | h
          . exact absurd (.inr h) hcond
          . exact h
         have hb:(decide (v'.cells.size≠size) || decide (off+v'.cells.size > cs.toArray.size))=false:=by
          simp only [not_or] at hcond
          rw [Bool.or_eq_false_iff]
          exact ⟨decide_eq_false hcond.1,decide_eq_false (by simpa using hcond.2)⟩
         have hov:SV.denL β (qth cells off (qug v))=some (qvb cs off v'.cells.toList):=by
          have e1:(qug v).length=v'.cells.size:=by rw [← qha]; exact hl1
          have e2:cells.length=cs.length:=by rw [← qha]; exact hl2
          rw [qdq _ _ _ (by omega)]
          unfold qvb
          rw [e1,Array.length_toList]
          exact qyd (qyd (qjg h3 off) hcv) (q6h h3 _)
         have hz:=qcz v'.cells.toList 0 off cs.toArray (by simpa using hle)
         obtain ⟨rs,hrs,hd,hn⟩:=ih parts' _ _ r hys h2 hov h4
         refine ⟨rs,?_,hd,by rw [hn,q6a (by simpa using hle)]⟩
         rw [if_neg (by rw [hb]; decide)]
         rw [← hrs]
         congr 1
         have:(v'.cells.zipIdx.foldl (fun cs (x:Value × Nat)=>cs.setIfInBounds (off+x.2) x.1) cs.toArray)=(qvb cs off v'.cells.toList).toArray:=by
          rw [← Array.foldl_toList,Array.toList_zipIdx]
          apply Array.ext'
          simpa using hz
         exact this
theorem qix {P:Program} {w:World}:∀ (l:List Field) (r:List (Nat × Nat)),quk P l=some r ->
  (l.mapM (m:=Sem) fun f=>do pure (f.offset,← sizeOf f.type)).run P w=.ok r w:=by
 intro l
 induction l with
 | nil=>intro r h; simp [quk] at h; subst h; simp
 | cons f l ih =>
   intro r h
   simp only [quk,Option.bind_eq_some_iff,Option.map_eq_some_iff] at h
   obtain ⟨i,hi,r',hr,rfl⟩:=h
   rw [List.mapM_cons]
   simp only [Sem.run_bind,q3a hi,Result.andThen_ok,Sem.run_pure,ih r' hr]
theorem qxr {β:Val} {ev:Operand->SV} {ρ:Operand->Value} (ps:List (Nat × Operand)) (h:∀ x∈ps.map (·.2),(ev x).den β=some (ρ x)) :
  SV.denL β ((mapN (fun p=>(p.1,ev p.2)) ps).map (·.2))=some ((ps.map fun (i,x)=>(i,ρ x)).map (·.2))/\(mapN (fun p=>(p.1,ev p.2)) ps).map (·.1)=(ps.map fun (i,x)=>(i,ρ x)).map (·.1):=by
 rw [qja]
 constructor
 . induction ps with
   | nil=>rfl
   | cons p ps ih=>exact denL_cons.2 ⟨_,_,h p.2 (by simp),ih (fun x hx=>h x (by simp at hx ⊢; exact .inr hx)),rfl⟩
 . simp [Function.comp_def]
theorem qud {β:Val} {ev:Operand->SV} {ρ:Operand->Value} (l:List Operand) (h:∀ x∈l,(ev x).den β=some (ρ x)):SV.denL β (mapN ev l)=some (l.map ρ):=by
 rw [qja]
 induction l with
 | nil=>rfl
 | cons a l ih=>exact denL_cons.2 ⟨_,_,h a (by simp),ih (fun x hx=>h x (by simp [hx])),rfl⟩
theorem qku {β:Val} {z:List SV} {zs:List Value} (h:SV.denL β z=some zs) (n:Nat):SV.denL β (q2v z n)=some (List.replicate n zs).flatten:=by
 induction n with
 | zero=>rfl
 | succ n ih =>
   show SV.denL β (app z (q2v z n))=_
   rw [q1a,List.replicate_succ,List.flatten_cons]
   exact qyd h ih
theorem q0k {z:Array Value} {n s:Nat} (hs:z.size=s) (hpos:n * s≠0):(Array.range (n * s)).map (fun i=>z[i % z.size]!)=(List.replicate n z.toList).flatten.toArray:=by
 subst hs
 have hs0:0<z.size:=Nat.pos_of_ne_zero fun h=>hpos (by rw [h,Nat.mul_zero])
 apply Array.ext'
 simp only [Array.toList_map,Array.toList_range]
 have hl:((List.replicate n z.toList).flatten).length=n * z.size:=by simp
 apply List.ext_getElem?
 intro i
 simp only [List.getElem?_map]
 rcases Nat.lt_or_ge i (n * z.size) with h | h
 . rw [List.getElem?_range h]
   have key:∀ (n i:Nat),i<n * z.size->((List.replicate n z.toList).flatten)[i]? = some (z[i % z.size]'(Nat.mod_lt _ hs0)):=by
    intro n
    induction n with
    | zero=>intro i hi; omega
    | succ n ih =>
      intro i hi
      rw [List.replicate_succ,List.flatten_cons]
      rcases Nat.lt_or_ge i z.size with h1 | h1
      . rw [List.getElem?_append_left (by simpa using h1)]
        simp [Nat.mod_eq_of_lt h1]
      . rw [List.getElem?_append_right (by simpa using h1),Array.length_toList,ih (i - z.size) (by rw [Nat.succ_mul] at hi; omega)]
        simp only [Nat.mod_eq_sub_mod h1]
   show some (z[i % z.size]!)=_
   rw [key n i h]
   simp only [Option.some.injEq]
   exact getElem!_pos z (i % z.size) (Nat.mod_lt _ hs0)
 . rw [List.getElem?_eq_none (by simpa using h),List.getElem?_eq_none (by omega)]; rfl
end
noncomputable section
variable {α:Type}
section
variable {P:Program} {O:Nat->Prop} {w0:World} {β:Val} {H:List SO} {w:World} {base:Nat}
theorem qga {res:Result Next} {v:SV} {x:Value} (hres:res=.ok (.value x) w) (hv:v.den β=some x):(vR v).Sat (qea P H β w base res) :=
 fun _=>⟨.value x,x,w,β,hres,rfl,hv,Eff.refl P β w base,by simp⟩
variable {ev:Operand->SV} {ρ:Operand->Value}
theorem qlu {dst:Option Tmp} {x:Operand} {t:TypeId} {pos:String} {af:Array Edge} {g:Option (Nat × Bool)} (hev:(ev x).den β=some (ρ x)) :
  (q7v x P ev H base).Sat (qea P H β w base ((execOp ρ ⟨dst,.move x,t,pos,af,g⟩).run P w))/\(q7v x P ev H base).Sat (qea P H β w base ((execOp ρ ⟨dst,.assign x,t,pos,af,g⟩).run P w)) :=
 ⟨qga rfl hev,qga rfl hev⟩
theorem qt5 {dst:Option Tmp} {c a b:Operand} {t:TypeId} {pos:String} {af:Array Edge} {g:Option (Nat × Bool)} (h1:(ev c).den β=some (ρ c)) (h2:(ev a).den β=some (ρ a)) (h3:(ev b).den β=some (ρ b)) :
  (qh2 c a b P ev H base).Sat (qea P H β w base ((execOp ρ ⟨dst,.pick c a b,t,pos,af,g⟩).run P w)):=by
 unfold qh2
 split
 . rename_i h; rw [h] at h1; simp only [SV.den,SB.den,Option.some.injEq] at h1
   exact qga (by simp [execOp,← h1,asBool]) h2
 . rename_i h; rw [h] at h1; simp only [SV.den,SB.den,Option.some.injEq] at h1
   exact qga (by simp [execOp,← h1,asBool]) h3
 . rename_i c' h; rw [h] at h1; simp only [SV.den,SB.den,Option.some.injEq] at h1
   exact ⟨fun hb=>qga (by simp [execOp,← h1,asBool,hb]) h2,fun hb=>qga (by simp [execOp,← h1,asBool,hb]) h3⟩
 . trivial
theorem qz2 {dst:Option Tmp} {e:TypeId} {t:TypeId} {pos:String} {af:Array Edge} {g:Option (Nat × Bool)} :
  (qe5 e P ev H base).Sat (qea P H β w base ((execOp ρ ⟨dst,.alloc e,t,pos,af,g⟩).run P w)):=by
 refine R.Sat.opt fun z hz => ?_
 obtain ⟨i,v,hi,hv,hd⟩:=qfe hz
 refine fun hb=>⟨.value (.pointer (some ⟨w.heap.size,0,none⟩)),_,{ w with heap:=w.heap.push (.cells v.cells e) },β.upd base ⟨w.heap.size,0,0⟩,?_,rfl,by simp [SV.den,SA.den,Val.upd_same,SN.den],?_,by simp⟩
 . simp [execOp,Instr.alloc,qvc hi hv,newVar,newRow]
 . refine Eff.alloc (vs:=v.cells.toList) (rest:=[]) (lo:=0) (hi:=0) hb.hd (by simp) rfl rfl rfl (hd β) (by simp) (by simp) (by simp)
theorem q58 {dst:Option Tmp} {e:TypeId} {x:Operand} {t:TypeId} {pos:String} {af:Array Edge} {g:Option (Nat × Bool)} (hev:(ev x).den β=some (ρ x)) :
  (oBox e x P ev H base).Sat (qea P H β w base ((execOp ρ ⟨dst,.box e x,t,pos,af,g⟩).run P w)):=by
 refine fun hb=>⟨.value (.pointer (some ⟨w.heap.size,0,none⟩)),_,{ w with heap:=w.heap.push (.cells (ρ x).cells e) },β.upd base ⟨w.heap.size,0,0⟩,?_,rfl,by simp [SV.den,SA.den,Val.upd_same,SN.den],?_,by simp⟩
 . simp [execOp,Instr.box,newVar,newRow]
 . refine Eff.alloc (vs:=(ρ x).cells.toList) (rest:=[]) (lo:=0) (hi:=0) hb.hd (by simp) rfl rfl rfl (q2l hev) (by simp) (by simp) (by simp)
theorem q68 {d:TypeDesc} {e:R α} {f:Array Field->R α} {φ:α->Prop} (h:∀ fs,d=.struct fs->(f fs).Sat φ) (he:e.Sat φ):(TypeDesc.asSt d e f).Sat φ:=by
 cases d <;> first | exact h _ rfl | exact he
theorem qu5 {d:TypeDesc} {e:R α} {f:Nat->TypeId->R α} {φ:α->Prop} (h:∀ n t,d=.array n t->(f n t).Sat φ) (he:e.Sat φ):(TypeDesc.asArr d e f).Sat φ:=by
 cases d <;> first | exact h _ _ rfl | exact he
theorem qhq {d:TypeDesc} {e:R α} {f:TypeId->R α} {φ:α->Prop} (h:∀ t,d=.slice t->(f t).Sat φ) (he:e.Sat φ):(TypeDesc.asSl d e f).Sat φ:=by
 cases d <;> first | exact h _ rfl | exact he
theorem q02 {dst:Option Tmp} {ty:TypeId} {ps:Array (Nat × Operand)} {t:TypeId} {pos:String} {af:Array Edge} {g:Option (Nat × Bool)} (hev:∀ x∈ps.toList.map (·.2),(ev x).den β=some (ρ x)) :
  (qf5 ty ps P ev H base).Sat (qea P H β w base ((execOp ρ ⟨dst,.build ty ps,t,pos,af,g⟩).run P w)):=by
 obtain ⟨hp1,hp2⟩:=qxr ps.toList hev
 refine R.Sat.opt fun d hd => ?_
 have hu:=qaa (w:=w) hd
 have hps:(ps.map fun (p:Nat × Operand)=>(p.1,ρ p.2)).toList=ps.toList.map fun (p:Nat × Operand)=>(p.1,ρ p.2):=by simp
 split
 . rename_i fields
   refine R.Sat.opt fun z hz=>R.Sat.opt fun pl hpl=>R.Sat.opt fun cells hc => ?_
   obtain ⟨i,v,hi,hv,hden⟩:=qfe hz
   have hplaces:=qix (w:=w) _ _ hpl
   obtain ⟨rs,hrs,hr,_⟩:=qcn (β:=β) (nth pl) _ (ps.map fun (p:Nat × Operand)=>(p.1,ρ p.2)).toList _ _ _ (by rw [hps]; exact hp1) (by rw [hps]; exact hp2) (hden β) hc
   refine qga (x:=.agg rs.toArray) ?_ (by simp [SV.den,hr])
   have hm:(fields.mapM (m:=Sem) fun f=>do pure (f.offset,← sizeOf f.type)).run P w=.ok pl.toArray w:=by
    rw [Array.mapM_eq_mapM_toList]
    simp only [Sem.run_map,hplaces,Result.andThen_ok]
   have hn:(fun i=>pl.toArray[i]?)=nth pl:=by funext i; rw [qca]; simp
   simp only [execOp,Instr.build,Sem.run_bind,qvc hi hv,Result.andThen_ok,hu,hm,hn]
   rw [show v.cells=v.cells.toList.toArray from by simp,hrs]
   simp
 . rename_i n elem
   refine R.Sat.opt fun z hz=>R.Sat.opt fun ie hie=>R.Sat.opt fun cells hc => ?_
   obtain ⟨i,v,hi,hv,hden⟩:=qfe hz
   obtain ⟨rs,hrs,hr,_⟩:=qcn (β:=β) (fun j=>some (j * ie.size,ie.size)) _ (ps.map fun (p:Nat × Operand)=>(p.1,ρ p.2)).toList _ _ _ (by rw [hps]; exact hp1) (by rw [hps]; exact hp2) (hden β) hc
   refine qga (x:=.agg rs.toArray) ?_ (by simp [SV.den,hr])
   simp only [execOp,Instr.build,Sem.run_bind,qvc hi hv,Result.andThen_ok,hu,q3a hie]
   rw [show v.cells=v.cells.toList.toArray from by simp,hrs]
   simp
 . trivial
end
end
noncomputable section
variable {α:Type}
section
variable {P:Program} {O:Nat->Prop} {w0:World} {β:Val} {H:List SO} {w:World} {base:Nat}
variable {ev:Operand->SV} {ρ:Operand->Value} {dst:Option Tmp} {t:TypeId} {pos:String} {af:Array Edge} {g:Option (Nat × Bool)}
theorem qyr {ty:TypeId} {n:Nat} {ps:Array (Nat × Operand)} (hev:∀ x∈ps.toList.map (·.2),(ev x).den β=some (ρ x)) :
  (qjp ty n ps P ev H base).Sat (qea P H β w base ((execOp ρ ⟨dst,.buildSlice ty n ps,t,pos,af,g⟩).run P w)):=by
 obtain ⟨hp1,hp2⟩:=qxr ps.toList hev
 refine R.Sat.opt fun d hd => ?_
 have hu:=qaa (w:=w) hd
 have hps:(ps.map fun (p:Nat × Operand)=>(p.1,ρ p.2)).toList=ps.toList.map fun (p:Nat × Operand)=>(p.1,ρ p.2):=by simp
 split
 . rename_i elem
   refine R.Sat.opt fun ie hie=>R.Sat.opt fun z hz => ?_
   split
   . trivial
   . rename_i hbig
     split
     . trivial
     . rename_i hzl
       refine R.Sat.opt fun cells hc => ?_
       obtain ⟨i,v,hi,hv,hden⟩:=qfe hz
       rw [hie] at hi; cases hi
       have hzl':v.cells.size=ie.size:=by
        have:=qva (hden β)
        rw [qha] at hzl
        simp at this hzl; omega
       have hmany:=qku (hden β) n
       obtain ⟨rs,hrs,hr,hrl⟩:=qcn (β:=β) (fun j=>some (j * ie.size,ie.size)) _ (ps.map fun (p:Nat × Operand)=>(p.1,ρ p.2)).toList _ _ _ (by rw [hps]; exact hp1) (by rw [hps]; exact hp2) hmany hc
       have hlen:rs.length=n * ie.size:=by rw [hrl]; simp [hzl']
       refine fun hb=>⟨.value (.slice (some ⟨w.heap.size,0,none⟩) n n),_,{ w with heap:=w.heap.push (.cells rs.toArray elem) },β.upd base ⟨w.heap.size,0,0⟩,?_,rfl,by rw [den_slice]; exact ⟨⟨w.heap.size,0,none⟩,n,by simp [SA.den,Val.upd_same,SN.den],rfl,Nat.le_refl _,rfl⟩,?_,by simp⟩
       . simp only [execOp,Instr.buildSlice,Sem.run_bind,hu,Result.andThen_ok,q3a hie]
         rw [if_neg hbig]
         by_cases h0:n * ie.size=0
         . rw [if_pos h0]
           have hrs':Instr.fill (fun i=>some (i * ie.size,ie.size)) ((Array.range (n * ie.size)).map (fun i=>(#[]:Array Value)[i % (#[]:Array Value).size]!)) (ps.map fun (p:Nat × Operand)=>(p.1,ρ p.2)).toList=some rs.toArray:=by
            rw [h0,← hrs]
            congr 1
            have:(List.replicate n v.cells.toList).flatten=[]:=by
             apply List.eq_nil_of_length_eq_zero; simp [hzl',h0]
            rw [this]; simp
           simp only [Sem.run_bind,Sem.run_pure,Result.andThen_ok,hrs']
           simp [newRow]
         . rw [if_neg h0]
           simp only [Sem.run_bind,qvc hie hv,Result.andThen_ok,Sem.run_pure,q0k hzl' h0,hrs]
           simp [newRow]
       . exact Eff.alloc (vs:=rs) (rest:=[]) (lo:=0) (hi:=0) hb.hd (by simp) rfl rfl rfl hr (by simp) (by simp) (by simp)
 . trivial
theorem qdg {v:SV} {x:Value} (hv:v.den β=some x) {f:SA->R α} {φ:α->Prop} (h:∀ a A,v=.ptr a->a.den β=some A->x=.pointer (some A)->(f a).Sat φ):(ptrS v f).Sat φ:=by
 cases v
 case ptr a =>
  simp only [SV.den,Option.map_eq_some_iff] at hv
  obtain ⟨A,hA,rfl⟩:=hv
  exact h a A rfl hA rfl
 all_goals trivial
theorem qv5 (hr:HeapRel0 P O w0 β H w) {ty:TypeId} {a:Operand} (hev:(ev a).den β=some (ρ a)) :
  (jhc ty a P ev H base).Sat (qea P H β w base ((execOp ρ ⟨dst,.load ty a,t,pos,af,g⟩).run P w)):=by
 refine qdg hev fun a' A _ hA hx=>qiu hr hA fun v x hv hrun=>qga (x:=x) ?_ hv
 simp only [execOp,Instr.loadAt,hx,Instr.sureAddr]
 simp [hrun]
theorem j3d (hr:HeapRel0 P O w0 β H w) {a:SA} {A:Addr} (ha:a.den β=some A) {e:SO} (he:H[a.nm]? = some e) {l:List SV} {xs:List Value} (hl:SV.denL β l=some xs) (hs:allN qcj l=true)
  {res:Result Next} (hres:∀ w',(storeCells A xs).run P w=.ok () w'->res=.ok .skip w'):(wrO e a l).Sat (qea P H β w base res):=by
 cases e with
 | row=>trivial
 | loop=>trivial
 | deferred=>trivial
 | gone=>trivial
 | obj=>trivial
 | own c wh el =>
   obtain ⟨ll,vs,rest,lo,hi,hbl,h0,hc,hh,hfz,hw,hcap⟩:=hr.entries _ _ he
   obtain ⟨l',hl',rfl⟩:=SA.den_some ha
   rw [hbl] at hl'; cases hl'
   cases l with
   | nil =>
     have hx:xs=[]:=by
      simp only [SV.denL] at hl
      exact (Option.some.inj hl).symm
     subst hx
     have h1:=hr.entries _ _ he
     refine ⟨.skip,_,w,_,hres w rfl,rfl,by simp [qua,SV.den,SV.denL,undef],he,rfl,⟨Val.le_refl β,rfl,rfl,rfl,Nat.le_refl _,Nat.le_refl _,fun _ _=>rfl,fun _ _ _=>rfl,?_,?_,by simp,by simp⟩⟩
     . intro n e e' h2 h3; simp at h2 h3; rw [h2.2,h3.2]
     . intro n e h2
       simp at h2
       obtain ⟨rfl,rfl⟩:=h2
       exact h1
   | cons y l =>
   refine qfk hc hl fun c' hc' hle => ?_
   have hrun:=qlc (P:=P) xs (vs++rest) (ll.off+a.off.den) 0 w hh (q0l hl hs) hfz.at (by rw [h0]; simp; omega)
   rw [Nat.add_zero,h0,Nat.zero_add,q5e hle] at hrun
   rw [h0,Nat.zero_add] at hres
   refine fun _=>⟨.skip,_,_,β,hres _ hrun,rfl,by simp [qua,SV.den,SV.denL,undef],Eff.turn hbl ?_,?_⟩
   . have hlt:ll.blk<w.heap.size:=(Array.getElem?_eq_some_iff.1 hh).1
     refine ⟨ll,qvb vs a.off.den xs,rest,lo,hi,hbl,h0,hc',by simp [hlt],?_,hw,?_⟩
     . simp only [List.length_append,q6a hle] at hfz ⊢; exact hfz
     . intro i hi'
       have:=hcap i hi'
       simp only [List.length_append,q6a hle] at this ⊢; exact this
   . intro n e hn
     simp at hn
     obtain ⟨rfl,rfl⟩:=hn
     exact ⟨_,he,rfl⟩
theorem q12 (hr:HeapRel0 P O w0 β H w) {ty:TypeId} {a x:Operand} (hev:(ev a).den β=some (ρ a)) (hevx:(ev x).den β=some (ρ x)) :
  (qg5 ty a x P ev H base).Sat (qea P H β w base ((execOp ρ ⟨dst,.store ty a x,t,pos,af,g⟩).run P w)):=by
 refine qdg hev fun a' A _ hA hx=>R.Sat.opt fun i hi=>R.Sat.boolC (fun hlen=>R.Sat.boolC (fun hs=>qgb fun e he => ?_) fun _=>trivial) fun _=>trivial
 have hc:=q2l hevx
 refine j3d hr hA he hc hs fun w' hw' => ?_
 have hsz:(ρ x).cells.size=i.size:=by
  have h1:=qva hc
  have h2:=Nat.eq_of_beq_eq_true hlen
  rw [qha] at h2
  simp at h1; omega
 simp only [execOp,Instr.storeAt,hx,Instr.sureAddr,storeVar]
 simp [q3a hi,hsz,hw']
theorem q78 {x:Operand} (hev:(ev x).den β=some (ρ x)) :
  (oNil x P ev H base).Sat (qea P H β w base ((execOp ρ ⟨dst,.nilCheck x,t,pos,af,g⟩).run P w)):=by
 unfold oNil qeu
 have hev0:=hev
 cases hv:ev x
 case ptr a =>
  rw [hv] at hev
  simp only [SV.den,Option.map_eq_some_iff] at hev
  obtain ⟨A,hA,hx⟩:=hev
  refine qga (x:=ρ x) ?_ (by rw [← hv]; exact hev0)
  simp [execOp,← hx]
 case slice a l c =>
  rw [hv] at hev
  rw [den_slice] at hev
  obtain ⟨A,C,hA,hC,_,hx⟩:=hev
  refine qga (x:=ρ x) ?_ (by rw [← hv]; exact hev0)
  simp [execOp,← hx]
 case tail a n l c =>
  rw [hv] at hev
  rw [qdc] at hev
  obtain ⟨A,C,hA,hC,_,hx⟩:=hev
  refine qga (x:=ρ x) ?_ (by rw [← hv]; exact hev0)
  simp [execOp,← hx]
 case func f xs ys =>
  rw [hv] at hev
  simp only [SV.den,Option.map_eq_some_iff,Option.bind_eq_some_iff] at hev
  obtain ⟨F,hF,az,has,bs,hbs,hx⟩:=hev
  have key:(∀ m,F≠.method m)->(vR (.func f xs ys)).Sat (qea P H β w base ((execOp ρ ⟨dst,.nilCheck x,t,pos,af,g⟩).run P w)):=by
   intro hm
   refine qga (x:=ρ x) ?_ (by rw [← hv]; exact hev0)
   simp only [execOp,← hx]
   cases F <;> first | rfl | exact absurd rfl (hm _)
  cases f with
  | yield nm =>
    simp only [SFn.den,Option.map_eq_some_iff] at hF
    obtain ⟨l,_,rfl⟩:=hF
    exact key (by simp)
  | fn fn =>
    simp only [SFn.den,Option.some.injEq] at hF
    subst hF
    cases fn <;> first | exact key (by simp) | trivial
 all_goals trivial
end
end
noncomputable section
variable {α:Type}
section
variable {P:Program} {O:Nat->Prop} {w0:World} {β:Val} {H:List SO} {w:World} {base:Nat}
variable {ev:Operand->SV} {ρ:Operand->Value} {dst:Option Tmp} {t:TypeId} {pos:String} {af:Array Edge} {g:Option (Nat × Bool)}
def q6e:Value->Value->Bool
 | .nilIface,.nilIface=>false
 | .agg _,.agg _=>false
 | _,_=>true
theorem qdz {op:BinOp} {t:TypeId} {x y:Operand} {a b:Value} (h:q6e a b=true):(eqGuard op t x y a b).run P w=.ok () w:=by
 unfold eqGuard
 cases a <;> cases b <;> first | (cases h; done) | (dsimp only; split <;> rfl)
theorem qjf {op:BinOp} {ty yt:TypeId} {x y:Operand} {v:SV} {z:Value} (hg:q6e (ρ x) (ρ y)=true) (hrun:(binOp op ty (ρ x) (ρ y)).run P w=.ok z w) (hv:v.den β=some z) :
  (vR v).Sat (qea P H β w base ((execOp ρ ⟨dst,.binOp op ty x y yt,t,pos,af,g⟩).run P w)):=by
 refine qga (x:=z) ?_ hv
 simp [execOp,qdz hg,hrun]
theorem j4d {op:BinOp} {ty:TypeId} {k:IntKind} {a b n:Int} (h:arM op k a b=some n):(binOp op ty (.int k a) (.int k b)).run P w=.ok (.int k n) w:=by
 cases op <;> simp only [arM,reduceCtorEq,Option.some.injEq] at h <;> subst h
 . rw [binOp_add]; rfl
 . rw [binOp_sub]; rfl
 . rw [binOp_mul]; rfl
 . rw [binOp_and]; rfl
 . rw [binOp_or]; rfl
 . rw [binOp_xor]; rfl
 . rw [binOp_andNot]; rfl
theorem q88 {op:BinOp} {ty:TypeId} {k:IntKind} {a b:Int} {n:Bool} (h:cmpI op a b=some n):(binOp op ty (.int k a) (.int k b)).run P w=.ok (.bool n) w:=by
 cases op <;> simp only [cmpI,reduceCtorEq,Option.some.injEq] at h <;> subst h
 . rw [binOp_eql]; rfl
 . rw [binOp_neq]; rfl
 . rw [binOp_lss]; rfl
 . rw [binOp_leq]; rfl
 . rw [binOp_gtr]; rfl
 . rw [binOp_geq]; rfl
theorem qw5 {op:BinOp} {ty yt:TypeId} {x y:Operand} {k k':IntKind} {a b:SI} (hx:ρ x=.int k a.den) (hy:ρ y=.int k' b.den) :
  (jac op k a k' b).Sat (qea P H β w base ((execOp ρ ⟨dst,.binOp op ty x y yt,t,pos,af,g⟩).run P w)):=by
 have hg:q6e (ρ x) (ρ y)=true:=by rw [hx,hy]; rfl
 have har:∀ op',op'=op->(bnAr op' k a k' b).Sat (qea P H β w base ((execOp ρ ⟨dst,.binOp op ty x y yt,t,pos,af,g⟩).run P w)):=by
  rintro op' rfl
  refine R.Sat.boolC (fun hk => ?_) fun _=>trivial
  have:=qjj hk; subst this
  refine (qzg op' k a b).bind fun z hz=>qjf hg (z:=.int k z.den) (by rw [hx,hy]; exact j4d hz) rfl
 have hcm:∀ op',op'=op->(bnCm op' k a k' b).Sat (qea P H β w base ((execOp ρ ⟨dst,.binOp op ty x y yt,t,pos,af,g⟩).run P w)):=by
  rintro op' rfl
  refine R.Sat.boolC (fun hk => ?_) fun _=>trivial
  have:=qjj hk; subst this
  refine (q38 op' a b).bind fun z hz=>qjf hg (z:=.bool z.den) (by rw [hx,hy]; exact q88 hz) rfl
 have hdv:∀ op',op'=op->op'=.quo\/op'=.rem->(bnDv op' k a k' b).Sat (qea P H β w base ((execOp ρ ⟨dst,.binOp op ty x y yt,t,pos,af,g⟩).run P w)):=by
  rintro op' rfl hop
  refine R.Sat.boolC (fun hk => ?_) fun _=>trivial
  have:=qjj hk; subst this
  refine (q28 op' k a b).bind fun z hz=>qjf hg (z:=.int k z.den) ?_ rfl
  rw [hx,hy,← hz.2]
  rcases hop with rfl | rfl
  . rw [binOp_quo]; unfold Op.intDiv; rw [if_neg hz.1]; rfl
  . rw [binOp_rem]; unfold Op.intDiv; rw [if_neg hz.1]; rfl
 have hsh:∀ op',op'=op->op'=.shl\/op'=.shr->(bnSh op' k a k' b).Sat (qea P H β w base ((execOp ρ ⟨dst,.binOp op ty x y yt,t,pos,af,g⟩).run P w)):=by
  rintro op' rfl hop
  refine (qu2 op' k a b hop).bind fun z hz=>qjf hg (z:=.int k z.den) ?_ rfl
  rw [hx,hy,← hz.2]
  have h0:¬ b.den<0:=by omega
  rcases hop with rfl | rfl
  . rw [binOp_shl]; unfold Op.shift; rw [if_neg h0]; rfl
  . rw [binOp_shr]; unfold Op.shift; rw [if_neg h0]; rfl
 cases op
 . exact har _ rfl
 . exact har _ rfl
 . exact har _ rfl
 . exact hdv _ rfl (.inl rfl)
 . exact hdv _ rfl (.inr rfl)
 . exact har _ rfl
 . exact har _ rfl
 . exact har _ rfl
 . exact hsh _ rfl (.inl rfl)
 . exact hsh _ rfl (.inr rfl)
 . exact har _ rfl
 . exact hcm _ rfl
 . exact hcm _ rfl
 . exact hcm _ rfl
 . exact hcm _ rfl
 . exact hcm _ rfl
 . exact hcm _ rfl
theorem qmg (a b:ByteArray):(a.toList == b.toList)=decide (a=b):=by
 rw [ByteArray.toList_eq,ByteArray.toList_eq,Bool.eq_iff_iff]
 simp only [beq_iff_eq,decide_eq_true_eq]
 obtain ⟨⟨x⟩⟩:=a
 obtain ⟨⟨y⟩⟩:=b
 simp
theorem q3l (a b:ByteArray):(a.toList == b.toList)=(a.data.toList == b.data.toList):=by
 rw [ByteArray.toList_eq,ByteArray.toList_eq]
theorem qez (l m:List SI):bytesOf (l++m)=bytesOf l++bytesOf m:=by
 unfold bytesOf
 rw [List.map_append]
 apply ByteArray.ext
 simp
theorem qzr (a:ByteArray):bytesOf (qqo a)=a:=by
 unfold bytesOf qqo
 rw [qja,List.map_map]
 apply ByteArray.ext
 have h:((fun i:SI=>UInt8.ofNat i.den.toNat) ∘ fun b:UInt8=>SI.lit (b.toNat:Int))=id:=by
  funext b
  show UInt8.ofNat ((b.toNat:Int)).toNat=b
  simp
 rw [h]
 simp
theorem qdn (l:List SI):(bytesOf l).size=lenN l:=by
 rw [qha]
 unfold bytesOf
 show (l.map _).toArray.size=_
 simp
theorem qx5 {op:BinOp} {ty yt:TypeId} {x y:Operand} {a b:SStr} (hx:ρ x=.string a.den) (hy:ρ y=.string b.den) :
  (j8b op a b).Sat (qea P H β w base ((execOp ρ ⟨dst,.binOp op ty x y yt,t,pos,af,g⟩).run P w)):=by
 have hg:q6e (ρ x) (ρ y)=true:=by rw [hx,hy]; rfl
 have key:∀ (v:SV) (z:Value),v.den β=some z->(binOp op ty (.string a.den) (.string b.den)).run P w=.ok z w->(vR v).Sat (qea P H β w base ((execOp ρ ⟨dst,.binOp op ty x y yt,t,pos,af,g⟩).run P w)) :=
  fun v z hv hz=>qjf hg (by rw [hx,hy]; exact hz) hv
 cases op
 case eql =>
  have hs:(binOp .eql ty (.string a.den) (.string b.den)).run P w=.ok (.bool (decide (a.den=b.den))) w:=by rw [binOp_string_eql,qmg]; rfl
  cases a <;> cases b <;> first
   | (refine key _ _ rfl ?_; rw [binOp_string_eql,q3l]; rfl)
   | exact key _ _ rfl hs
 case neq =>
  have hs:(binOp .neq ty (.string a.den) (.string b.den)).run P w=.ok (.bool (!decide (a.den=b.den))) w:=by rw [binOp_string_neq,qmg]; rfl
  cases a <;> cases b <;> first
   | (refine key _ _ rfl ?_; rw [binOp_string_neq,q3l]; rfl)
   | exact key _ _ rfl hs
 case lss =>
  have hs:(binOp .lss ty (.string a.den) (.string b.den)).run P w=.ok (.bool (Op.bytesLess a.den.data.toList b.den.data.toList)) w:=by rw [binOp_string_lss,ByteArray.toList_eq,ByteArray.toList_eq]; rfl
  cases a <;> cases b <;> exact key _ _ rfl hs
 case geq =>
  have hs:(binOp .geq ty (.string a.den) (.string b.den)).run P w=.ok (.bool (!Op.bytesLess a.den.data.toList b.den.data.toList)) w:=by rw [← ByteArray.toList_eq,← ByteArray.toList_eq]; rfl
  cases a <;> cases b <;> exact key _ _ rfl hs
 case leq =>
  have hs:(binOp .leq ty (.string a.den) (.string b.den)).run P w=.ok (.bool (Op.bytesLess a.den.data.toList b.den.data.toList || decide (a.den=b.den))) w:=by rw [← ByteArray.toList_eq,← ByteArray.toList_eq,← qmg]; rfl
  cases a <;> cases b <;> first
   | (refine key _ _ rfl ?_; rw [← q3l,qmg]; exact hs)
   | exact key _ _ rfl hs
 case gtr =>
  have hs:(binOp .gtr ty (.string a.den) (.string b.den)).run P w=.ok (.bool (!(Op.bytesLess a.den.data.toList b.den.data.toList || decide (a.den=b.den)))) w:=by rw [← ByteArray.toList_eq,← ByteArray.toList_eq,← qmg]; rfl
  cases a <;> cases b <;> first
   | (refine key _ _ rfl ?_; rw [← q3l,qmg]; exact hs)
   | exact key _ _ rfl hs
 case add =>
  have hs:a.den.size+b.den.size<=9223372036854775807->(binOp .add ty (.string a.den) (.string b.den)).run P w=.ok (.string (a.den++b.den)) w:=by
   intro hle
   rw [binOp_string_add]
   unfold Op.stringOp
   simp only
   rw [if_neg (by simp only [IntKind.max,IntKind.signed,IntKind.bits]; simp; omega)]
   rfl
  have hcat:∀ l m:List SI,bytesOf l=a.den->bytesOf m=b.den->(qcr l m).Sat (qea P H β w base ((execOp ρ ⟨dst,.binOp .add ty x y yt,t,pos,af,g⟩).run P w)):=by
   intro l m hl hm
   unfold qcr
   split
   . rename_i h
     refine key _ _ ?_ (hs (by rw [← hl,← hm,qdn,qdn]; exact h))
     show some (Value.string (q4m (app l m)).den)=_
     rw [qar,q1a,qez,hl,hm]
   . trivial
  cases a with
  | lit a=>cases b with
    | lit b =>
      show R.Sat (if _ then _ else _) _
      split
      . rename_i h; exact key _ _ rfl (hs h)
      . trivial
    | sym b=>exact fun h=>key _ _ rfl (hs h)
    | bytes m=>exact hcat _ _ (qzr a) rfl
  | sym a=>cases b <;> exact fun h=>key _ _ rfl (hs h)
  | bytes l=>cases b with
    | lit b=>exact hcat _ _ rfl (qzr b)
    | sym b=>exact fun h=>key _ _ rfl (hs h)
    | bytes m=>exact hcat _ _ rfl rfl
 all_goals trivial
theorem q1b (v:SV):(∃ k n,v=.int k n)\/∀ {γ:Type} (d:γ) (f:IntKind->SI->γ),v.asInt d f=d:=by
 cases v <;> first | exact .inl ⟨_,_,rfl⟩ | exact .inr fun _ _=>rfl
theorem q0r:∃ d,∀ t x y,Op.equal t x y=Op.equalIn (d+1) t x y:=⟨9999,fun _ _ _=>rfl⟩
theorem q1k {ty:TypeId} (h:P.underlying ty=some .bool) (a b:Bool):(Op.equal ty (.bool a) (.bool b)).run P w=.ok (a == b) w:=by
 obtain ⟨m,hm⟩:=q0r
 rw [hm]
 simp [Op.equalIn,qaa h]
theorem q22 {op:BinOp} {ty yt:TypeId} {x y:Operand} {a b:SB} (hx:ρ x=.bool a.den) (hy:ρ y=.bool b.den) :
  (q64 P op ty a b).Sat (qea P H β w base ((execOp ρ ⟨dst,.binOp op ty x y yt,t,pos,af,g⟩).run P w)):=by
 have hg:q6e (ρ x) (ρ y)=true:=by rw [hx,hy]; rfl
 refine R.Sat.opt fun d hd => ?_
 split
 . cases op
   case eql =>
    have h1:(binOp .eql ty (.bool a.den) (.bool b.den)).run P w=.ok (.bool (a.den == b.den)) w:=by
     simp [binOp,q1k hd]
    cases a <;> cases b <;> exact qjf hg (by rw [hx,hy]; exact h1) rfl
   case neq =>
    have h1:(binOp .neq ty (.bool a.den) (.bool b.den)).run P w=.ok (.bool (!(a.den == b.den))) w:=by
     simp [binOp,q1k hd]
    cases a <;> cases b <;> exact qjf hg (by rw [hx,hy]; exact h1) rfl
   all_goals trivial
 . trivial
theorem qlv {ty:TypeId} {d:TypeDesc} (h:P.underlying ty=some d) {x y:SV} (hn:qau d x y=true) {b:Bool} (hb:q61 x y=some b) {a c:Value} (hx:x.den β=some a) (hy:y.den β=some c) :
  (Op.equal ty a c).run P w=.ok b w/\q6e a c=true/\∀ op,(op=.eql\/op=.neq)->(binOp op ty a c).run P w=.ok (.bool (if op=.eql then b else !b)) w:=by
 have key:(Op.equal ty a c).run P w=.ok b w->(∀ s,a≠.string s)->(∀ k n,a≠.int k n)->(∀ k n,a≠.float k n)->(∀ k n m,a≠.complex k n m)->a≠.nilIface->(∀ l,a≠.agg l) ->
   (Op.equal ty a c).run P w=.ok b w/\q6e a c=true/\∀ op,(op=.eql\/op=.neq)->(binOp op ty a c).run P w=.ok (.bool (if op=.eql then b else !b)) w:=by
  intro h1 n1 n2 n3 n4 n5 n6
  refine ⟨h1,?_,fun op hop => ?_⟩
  . cases a <;> first | rfl | exact absurd rfl (n6 _) | exact absurd rfl n5
  . rcases hop with rfl | rfl
    . have:binOp .eql ty a c=(do pure (.bool (← Op.equal ty a c))):=by
       cases a <;> first | rfl | exact absurd rfl (n1 _) | exact absurd rfl (n2 _ _) | exact absurd rfl (n3 _ _) | exact absurd rfl (n4 _ _ _)
      rw [this]; simp [h1]
    . have:binOp .neq ty a c=(do pure (.bool (!(← Op.equal ty a c)))):=by
       cases a <;> first | rfl | exact absurd rfl (n1 _) | exact absurd rfl (n2 _ _) | exact absurd rfl (n3 _ _) | exact absurd rfl (n4 _ _ _)
      rw [this]; simp [h1]
 obtain ⟨m,hm⟩:=q0r
 have heq:∀ z:Sem Bool,Op.equalIn (m+1) ty a c=z->z.run P w=.ok b w->(Op.equal ty a c).run P w=.ok b w:=fun z e1 e2=>by
  rw [hm,e1]; exact e2
 cases d <;> cases x <;> first
  | (cases hn; done)
  | (cases y <;> first
    | (cases hn; done)
    | (simp only [SV.den,Option.map_eq_some_iff,Option.bind_eq_some_iff,Option.some.injEq,q5h,qij] at hx hy
       simp only [q61,Option.some.injEq] at hb
       subst hb
       refine key (heq _ rfl ?_) ?_ ?_ ?_ ?_ ?_ ?_ <;> first
        | (first
          | (subst hx; subst hy)
          | (subst hx; obtain ⟨_,_,rfl⟩:=hy)
          | (subst hy; obtain ⟨_,_,rfl⟩:=hx)
          | (subst hx; obtain ⟨_,_,_,_,_,rfl⟩:=hy)
          | (subst hy; obtain ⟨_,_,_,_,_,rfl⟩:=hx)
          | (subst hx; obtain ⟨_,_,_,_,_,_,rfl⟩:=hy)
          | (subst hy; obtain ⟨_,_,_,_,_,_,rfl⟩:=hx)) <;> first | (simp [Op.equalIn,qaa h]; done) | (intros; simp; done)))
end
end
noncomputable section
variable {α:Type}
def eqV1 (k:CK) (a b:Value):Option Bool :=
 match k,a,b with
 | .i,.int k x,.int k' y=>if k=k' then some (x == y) else none
 | .b,.bool x,.bool y=>some (x == y)
 | .s,.string x,.string y=>some (decide (x=y))
 | _,_,_=>none
def eqVs:List CK->List Value->List Value->Option Bool
 | [],[],[]=>some true
 | k::ks,a::az,b::bs=>(eqV1 k a b).bind fun x=>(eqVs ks az bs).map fun y=>x && y
 | _,_,_=>none
theorem q98 (x y:SI):(eqSI x y).den=(x.den == y.den):=by
 cases x <;> cases y <;> first | rfl | exact qzk _ _
theorem qa9 (x y:SB):(eqSB x y).den=(x.den == y.den):=by cases x <;> cases y <;> rfl
theorem qfz (a b:ByteArray):(a.data.toList == b.data.toList)=decide (a=b):=by
 obtain ⟨⟨a⟩⟩:=a
 obtain ⟨⟨b⟩⟩:=b
 show (a == b)=_
 by_cases h:a=b
 . subst h; simp
 . rw [decide_eq_false]
   . simpa using h
   . intro e; injection e with e; injection e with e; exact h e
theorem qb9 (x y:SStr):(eqSS x y).den=decide (x.den=y.den):=by
 cases x <;> cases y <;> first | rfl | exact qfz _ _
theorem qc9 (x y:SB):(andS x y).den=(x.den && y.den):=by
 cases x with
 | lit a=>cases a <;> rfl
 | sym a =>
   cases y with
   | lit b=>cases b <;> simp [andS,boolC,SB.den]
   | sym b=>rfl
theorem q32 {β:Val} {k:CK} {a b:SV} {c:SB} {x y:Value} (h:q5m k a b=some c) (ha:a.den β=some x) (hb:b.den β=some y):eqV1 k x y=some c.den:=by
 unfold q5m at h
 split at h
 . rename_i k1 x1 k2 y1
   simp only [SV.den,Option.some.injEq] at ha hb
   subst ha hb
   cases hk:eqK k1 k2 with
   | false=>rw [hk] at h; cases h
   | true =>
     rw [hk] at h
     cases h
     have:=qjj hk
     subst this
     simp only [eqV1,if_true,q98]
 . simp only [SV.den,Option.some.injEq] at ha hb
   subst ha hb
   cases h
   simp only [eqV1,qa9]
 . simp only [SV.den,Option.some.injEq] at ha hb
   subst ha hb
   cases h
   simp only [eqV1,qb9]
 . cases h
theorem qgk {β:Val}:∀ {ks:List CK} {az bs:List SV} {c:SB} {xs ys:List Value},q8c ks az bs=some c->SV.denL β az=some xs->SV.denL β bs=some ys->eqVs ks xs ys=some c.den
 | [],[],[],c,xs,ys,h,ha,hb=>by cases h; cases ha; cases hb; rfl
 | k::ks,a::az,b::bs,c,xs,ys,h,ha,hb=>by
   obtain ⟨x,xs',hx,hxs,rfl⟩:=denL_cons.1 ha
   obtain ⟨y,ys',hy,hys,rfl⟩:=denL_cons.1 hb
   simp only [q8c,Option.bind_eq_some_iff,Option.map_eq_some_iff] at h
   obtain ⟨c1,h1,c2,h2,rfl⟩:=h
   simp only [eqVs,q32 h1 hx hy,qgk h2 hxs hys,Option.bind_some,Option.map_some,qc9]
 | [],[],_::_,_,_,_,h,_,_=>by cases h
 | [],_::_,_,_,_,_,h,_,_=>by cases h
 | _::_,[],_,_,_,_,h,_,_=>by cases h
 | _::_,_::_,[],_,_,_,h,_,_=>by cases h
theorem qhk:∀ {ks ls:List CK} {xs ys:List Value} {r:Bool},eqVs (ks++ls) xs ys=some r->∃ r1 r2,eqVs ks (xs.take ks.length) (ys.take ks.length)=some r1/\eqVs ls (xs.drop ks.length) (ys.drop ks.length)=some r2/\r=(r1 && r2)
 | [],ls,xs,ys,r,h=>⟨true,r,by simp [eqVs],by simpa using h,by simp⟩
 | k::ks,ls,x::xs,y::ys,r,h=>by
   simp only [List.cons_append,eqVs,Option.bind_eq_some_iff,Option.map_eq_some_iff] at h
   obtain ⟨a,ha,b,hb,rfl⟩:=h
   obtain ⟨r1,r2,h1,h2,rfl⟩:=qhk hb
   exact ⟨a && r1,r2,by simp [eqVs,ha,h1],by simpa using h2,by cases a <;> simp⟩
 | _::_,_,[],_,_,h=>by simp [eqVs] at h
 | _::_,_,_::_,[],_,h=>by simp [eqVs] at h
theorem qyh:∀ {ks:List CK} {xs ys:List Value} {r:Bool},eqVs ks xs ys=some r->xs.length=ks.length/\ys.length=ks.length
 | [],[],[],_,_=>⟨rfl,rfl⟩
 | k::ks,x::xs,y::ys,r,h=>by
   simp only [eqVs,Option.bind_eq_some_iff,Option.map_eq_some_iff] at h
   obtain ⟨a,_,b,hb,rfl⟩:=h
   obtain ⟨h1,h2⟩:=qyh hb
   simp [h1,h2]
 | [],[],_::_,_,h=>by simp [eqVs] at h
 | [],_::_,_,_,h=>by simp [eqVs] at h
 | _::_,[],_,_,h=>by simp [eqVs] at h
 | _::_,_::_,[],_,h=>by simp [eqVs] at h
theorem qy5 {k:CK} {a b:Value} (h:eqV1 k a b=some true):a=b:=by
 unfold eqV1 at h
 split at h
 . split at h
   . rename_i hk; simp at h; rw [hk,h]
   . cases h
 . simp at h; rw [h]
 . simp at h; rw [h]
 . cases h
theorem qmu:∀ {ks:List CK} {xs ys:List Value},eqVs ks xs ys=some true->xs=ys
 | [],[],[],_=>rfl
 | k::ks,x::xs,y::ys,h=>by
   simp only [eqVs,Option.bind_eq_some_iff,Option.map_eq_some_iff] at h
   obtain ⟨a,ha,b,hb,hab⟩:=h
   cases a <;> cases b <;> simp at hab
   rw [qy5 ha,qmu hb]
 | [],[],_::_,h=>by simp [eqVs] at h
 | [],_::_,_,h=>by simp [eqVs] at h
 | _::_,[],_,h=>by simp [eqVs] at h
 | _::_,_::_,[],h=>by simp [eqVs] at h
section
variable {P:Program}
def qqe (P:Program) (t:TypeId) (x:Value) (xs:List Value):Prop:=∀ d,P.underlying t=some d->if qbc d=true then x=.agg xs.toArray else xs=[x]
theorem qve {t:TypeId} {l ks:List CK} (h:qdr P t l=some ks):ks=l/\∃ i,P.info? t=some i/\i.size=l.length:=by
 unfold qdr at h
 simp only [Option.bind_eq_some_iff] at h
 obtain ⟨i,hi,h⟩:=h
 split at h
 . rename_i hs; cases h; rw [qha] at hs; exact ⟨rfl,i,hi,hs⟩
 . cases h
theorem qen {d:Nat} {t:TypeId} {ks:List CK} (h:qxb P d t=some ks):∃ k,P.underlying t=some k/\(qbc k=true->∃ i,P.info? t=some i/\i.size=ks.length)/\(qbc k=false->ks.length=1):=by
 cases d with
 | zero=>cases h
 | succ d =>
   simp only [qxb,Option.bind_eq_some_iff] at h
   obtain ⟨k,hk,h⟩:=h
   refine ⟨k,hk,?_⟩
   cases k <;> first | (cases h; done) | skip
   case bool=>cases h; exact ⟨fun h=>(by cases h),fun _=>rfl⟩
   case int=>cases h; exact ⟨fun h=>(by cases h),fun _=>rfl⟩
   case string=>cases h; exact ⟨fun h=>(by cases h),fun _=>rfl⟩
   case array n e =>
    simp only [Option.bind_eq_some_iff] at h
    obtain ⟨ls,_,i,_,h⟩:=h
    split at h
    . obtain ⟨rfl,i,hi,hs⟩:=qve h
      exact ⟨fun _=>⟨i,hi,hs⟩,fun h=>(by cases h)⟩
    . cases h
   case struct fs =>
    simp only at h
    split at h
    . cases h
    . simp only [Option.bind_eq_some_iff] at h
      obtain ⟨ls,_,h⟩:=h
      obtain ⟨rfl,i,hi,hs⟩:=qve h
      exact ⟨fun _=>⟨i,hi,hs⟩,fun h=>(by cases h)⟩
theorem qkf {w:World} {d:Nat} {e:TypeId} {ks:List CK} (h:qxb P d e=some ks) {zs:List Value} {off:Nat} (hl:((zs.drop off).take ks.length).length=ks.length) :
  ∃ v,(part e zs.toArray off).run P w=.ok v w/\qqe P e v ((zs.drop off).take ks.length):=by
 obtain ⟨k,hk,h1,h2⟩:=qen h
 have hagg:=qan (w:=w) hk
 cases hb:qbc k with
 | true =>
   obtain ⟨i,hi,hs⟩:=h1 hb
   refine ⟨.agg ((zs.drop off).take ks.length).toArray,?_,fun d hd => ?_⟩
   . simp only [part,Sem.run_bind,hagg,hb,Result.andThen_ok,if_true,q3a hi,Sem.run_pure]
     congr 2
     apply Array.ext'
     simp only [Array.toList_extract]
     rw [List.extract_eq_take_drop,hs]
     simp
   . rw [hk] at hd; cases hd; rw [if_pos hb]
 | false =>
   have hks:=h2 hb
   rw [hks] at hl ⊢
   cases hd:zs.drop off with
   | nil=>rw [hd] at hl; simp at hl
   | cons v r =>
     have hv:zs[off]? = some v:=by
      have:=List.getElem?_drop (xs:=zs) (i:=off) (j:=0)
      rw [hd] at this; simpa using this.symm
     refine ⟨v,?_,fun d hd => ?_⟩
     . simp [part,hagg,hb,hv]
     . rw [hk] at hd; cases hd; rw [hb,if_neg (by simp)]; simp
theorem qkp {w:World} {d D:Nat} {e:TypeId} {ks:List CK} (hk:qxb P d e=some ks) (hE:∀ x y xs ys r,qqe P e x xs->qqe P e y ys->eqVs ks xs ys=some r->(Op.equalIn D e x y).run P w=.ok r w) {xs ys:List Value} :
  ∀ (m s:Nat) (r:Bool),eqVs (repL ks m) (xs.drop (s * ks.length)) (ys.drop (s * ks.length))=some r->(Op.eqItems D e ks.length xs.toArray ys.toArray (List.range' s m)).run P w=.ok r w
 | 0,s,r,h=>by
   have:r=true:=by
    have h:eqVs [] _ _=some r:=h
    unfold eqVs at h
    split at h <;> simp_all
   subst this
   simp [Op.eqItems]
 | m+1,s,r,h=>by
   have h:eqVs (app ks (repL ks m)) _ _=some r:=h
   rw [q1a] at h
   obtain ⟨r1,r2,h1,h2,rfl⟩:=qhk h
   obtain ⟨l1,l2⟩:=qyh h1
   obtain ⟨a,ha,sa⟩:=qkf (w:=w) hk l1
   obtain ⟨b,hb,sb⟩:=qkf (w:=w) hk l2
   have hr:=hE _ _ _ _ _ sa sb h1
   rw [List.drop_drop,List.drop_drop,show s * ks.length+ks.length=(s+1) * ks.length from by rw [Nat.add_mul]; omega] at h2
   have ih:=qkp hk hE m (s+1) r2 h2
   simp only [List.range'_succ,Op.eqItems,Sem.run_bind,ha,hb,hr,Result.andThen_ok]
   cases r1
   . simp
   . simpa using ih
theorem qfn {w:World} {d D:Nat} (hE:∀ e ks,qxb P d e=some ks->∀ x y xs ys r,qqe P e x xs->qqe P e y ys->eqVs ks xs ys=some r->(Op.equalIn D e x y).run P w=.ok r w) {xs ys:List Value} :
  ∀ (fs:List Field) (off:Nat) (ks:List CK) (r:Bool),qhg (fun e=>qxb P d e) fs off=some ks->eqVs ks (xs.drop off) (ys.drop off)=some r->(Op.eqFields D xs.toArray ys.toArray fs).run P w=.ok r w
 | [],off,ks,r,hk,h=>by
   cases hk
   have:r=true:=by
    unfold eqVs at h
    split at h <;> simp_all
   subst this
   simp [Op.eqFields]
 | f::fs,off,ks,r,hk,h=>by
   simp only [qhg,Option.bind_eq_some_iff] at hk
   obtain ⟨ls,hls,hk⟩:=hk
   split at hk
   . rename_i hc
     obtain ⟨ho,hn⟩:=hc
     simp only [Option.map_eq_some_iff] at hk
     obtain ⟨ms,hms,rfl⟩:=hk
     rw [q1a] at h
     rw [qha] at hms
     obtain ⟨r1,r2,h1,h2,rfl⟩:=qhk h
     obtain ⟨l1,l2⟩:=qyh h1
     subst ho
     obtain ⟨a,ha,sa⟩:=qkf (w:=w) hls l1
     obtain ⟨b,hb,sb⟩:=qkf (w:=w) hls l2
     have hr:=hE _ _ hls _ _ _ _ _ sa sb h1
     rw [List.drop_drop,List.drop_drop] at h2
     have ih:=qfn hE fs _ ms r2 hms h2
     simp only [Op.eqFields,hn,ne_eq,not_false_eq_true,if_true,Sem.run_bind,ha,hb,hr,Result.andThen_ok]
     cases r1
     . simp
     . simpa using ih
   . cases hk
theorem qgn {w:World}:∀ (d:Nat) (t:TypeId) (ks:List CK),qxb P d t=some ks->∀ D,d<=D->∀ (x y:Value) (xs ys:List Value) (r:Bool),qqe P t x xs->qqe P t y ys->eqVs ks xs ys=some r->(Op.equalIn D t x y).run P w=.ok r w:=by
 intro d
 induction d with
 | zero=>intro t ks h; cases h
 | succ d ih =>
   intro t ks h D hD x y xs ys r hx hy hr
   obtain ⟨D,rfl⟩:∃ D',D=D'+1:=⟨D - 1,by omega⟩
   simp only [qxb,Option.bind_eq_some_iff] at h
   obtain ⟨k,hk,h⟩:=h
   have hx:=hx k hk
   have hy:=hy k hk
   have hu:=qaa (w:=w) hk
   cases k <;> first | (cases h; done) | skip
   case bool =>
    cases h
    rw [if_neg (by simp [qbc])] at hx hy
    subst hx hy
    simp only [eqVs,Option.bind_eq_some_iff,Option.map_eq_some_iff] at hr
    obtain ⟨a,ha,b,hb,rfl⟩:=hr
    cases hb
    cases x <;> cases y <;> simp only [eqV1,reduceCtorEq,Option.some.injEq] at ha
    subst ha
    simp [Op.equalIn,hu]
   case int =>
    cases h
    rw [if_neg (by simp [qbc])] at hx hy
    subst hx hy
    simp only [eqVs,Option.bind_eq_some_iff,Option.map_eq_some_iff] at hr
    obtain ⟨a,ha,b,hb,rfl⟩:=hr
    cases hb
    cases x <;> cases y <;> simp only [eqV1,reduceCtorEq] at ha
    split at ha
    . rename_i hkk
      cases ha
      simp [Op.equalIn,hu,hkk]
    . cases ha
   case string =>
    cases h
    rw [if_neg (by simp [qbc])] at hx hy
    subst hx hy
    simp only [eqVs,Option.bind_eq_some_iff,Option.map_eq_some_iff] at hr
    obtain ⟨a,ha,b,hb,rfl⟩:=hr
    cases hb
    cases x <;> cases y <;> simp only [eqV1,reduceCtorEq,Option.some.injEq] at ha
    subst ha
    simp [Op.equalIn,hu]
    rw [Bool.eq_iff_iff,MapKept.bytes_beq,decide_eq_true_iff]
   case array n e =>
    simp only [Option.bind_eq_some_iff] at h
    obtain ⟨ls,hls,i,hi,h⟩:=h
    split at h
    . rename_i hsz
      obtain ⟨rfl,_⟩:=qve h
      rw [if_pos (by simp [qbc])] at hx hy
      subst hx hy
      rw [qha] at hsz
      rw [run_equalIn_array w D xs.toArray ys.toArray hk hi]
      have hc:P.cellsOf e=ls.length:=by simp [Program.cellsOf,hi,hsz]
      rw [hc,List.range_eq_range']
      exact qkp hls (fun x y xs ys r sx sy he=>ih e ls hls D (by omega) x y xs ys r sx sy he) n 0 r (by simpa using hr)
    . cases h
   case struct fs =>
    simp only at h
    split at h
    . cases h
    . rename_i hst
      simp only [Option.bind_eq_some_iff] at h
      obtain ⟨ls,hls,h⟩:=h
      obtain ⟨rfl,_⟩:=qve h
      rw [if_pos (by simp [qbc])] at hx hy
      subst hx hy
      have hf:P.fieldsOf t=fs:=by simp [Program.fieldsOf,hk]
      rw [run_equalIn_struct w D t xs.toArray ys.toArray (by rw [hf]; exact hk) (by simpa using hst),hf]
      exact qfn (fun e ks he x y xs ys r sx sy hr=>ih e ks he D (by omega) x y xs ys r sx sy hr) fs.toList 0 ks r hls (by simpa using hr)
theorem q42:∀ (d:Nat) (t:TypeId) (ks:List CK),qxb P d t=some ks->∀ D,d<=D->P.eqGuardType D t=false:=by
 intro d
 induction d with
 | zero=>intro t ks h; cases h
 | succ d ih =>
   intro t ks h D hD
   obtain ⟨D,rfl⟩:∃ D',D=D'+1:=⟨D - 1,by omega⟩
   simp only [qxb,Option.bind_eq_some_iff] at h
   obtain ⟨k,hk,h⟩:=h
   unfold Program.eqGuardType
   rw [hk]
   cases k <;> first | (cases h; done) | rfl | skip
   case array n e =>
    simp only [Option.bind_eq_some_iff] at h
    obtain ⟨ls,hls,_⟩:=h
    exact ih e ls hls D (by omega)
   case struct fs =>
    simp only at h
    split at h
    . cases h
    . simp only [Option.bind_eq_some_iff] at h
      obtain ⟨ls,hls,_⟩:=h
      show (fs.any fun f=>f.name != "_" && P.eqGuardType D f.type)=false
      have key:∀ (l:List Field) (off:Nat) (ks:List CK),qhg (fun e=>qxb P d e) l off=some ks->∀ f∈l,P.eqGuardType D f.type=false:=by
       intro l
       induction l with
       | nil=>intro off ks _ f hf; cases hf
       | cons g l ihl =>
         intro off ks hk f hf
         simp only [qhg,Option.bind_eq_some_iff] at hk
         obtain ⟨ms,hms,hk⟩:=hk
         split at hk
         . simp only [Option.map_eq_some_iff] at hk
           obtain ⟨ns,hns,_⟩:=hk
           rcases List.mem_cons.1 hf with rfl | hf
           . exact ih _ _ hms D (by omega)
           . exact ihl _ _ hns f hf
         . cases hk
      rw [Bool.eq_false_iff]
      intro hany
      rw [Array.any_eq_true'] at hany
      obtain ⟨f,hf,hf2⟩:=hany
      rw [key fs.toList 0 ls hls f (by simpa using hf)] at hf2
      simp at hf2
end
section
variable {P:Program} {O:Nat->Prop} {w0:World} {β:Val} {H:List SO} {w:World} {base:Nat}
variable {ev:Operand->SV} {ρ:Operand->Value} {dst:Option Tmp} {t:TypeId} {pos:String} {af:Array Edge} {g:Option (Nat × Bool)}
theorem qz5 {op:BinOp} {ty yt:TypeId} {x y:Operand} {l m:List SV} (hx:(SV.agg l).den β=some (ρ x)) (hy:(SV.agg m).den β=some (ρ y)) :
  (j9b P op ty l m).Sat (qea P H β w base ((execOp ρ ⟨dst,.binOp op ty x y yt,t,pos,af,g⟩).run P w)):=by
 simp only [SV.den,Option.map_eq_some_iff] at hx hy
 obtain ⟨xs,hxs,hx⟩:=hx
 obtain ⟨ys,hys,hy⟩:=hy
 refine R.Sat.opt fun k hk=>R.Sat.boolC (fun hag=>R.Sat.opt fun ks hks=>R.Sat.opt fun b hb => ?_) fun _=>trivial
 have hv:=qgk hb hxs hys
 have hsh:∀ zs:List Value,qqe P ty (.agg zs.toArray) zs:=fun zs d hd=>by rw [hk] at hd; cases hd; rw [if_pos hag]
 have hr:=qgn (w:=w) 8 ty ks hks 10000 (by omega) _ _ _ _ _ (hsh xs) (hsh ys) hv
 have hgd:=q42 8 ty ks hks P.depth (by unfold Program.depth Made.depth; omega)
 have hg:(eqGuard op ty x y (.agg xs.toArray) (.agg ys.toArray)).run P w=.ok () w:=run_eqGuard_agg w op ty x y _ _ hgd
 cases op
 case eql =>
  refine qga (x:=.bool b.den) ?_ rfl
  simp [execOp,← hx,← hy,hg,run_eql_struct,hr]
 case neq =>
  cases b with
  | lit b =>
    refine qga (x:=.bool (!b)) ?_ rfl
    simp [execOp,← hx,← hy,hg,run_neq_struct,hr,SB.den]
  | sym b =>
    refine qga (x:=.bool (!b)) ?_ rfl
    simp [execOp,← hx,← hy,hg,run_neq_struct,hr,SB.den]
 all_goals trivial
end
end
noncomputable section
variable {α:Type}
section
variable {P:Program} {O:Nat->Prop} {w0:World} {β:Val} {H:List SO} {w:World} {base:Nat}
variable {ev:Operand->SV} {ρ:Operand->Value} {dst:Option Tmp} {t:TypeId} {pos:String} {af:Array Edge} {g:Option (Nat × Bool)}
theorem q05 {op:BinOp} {ty yt:TypeId} {x y:Operand} {a b:SV} (hx:a.den β=some (ρ x)) (hy:b.den β=some (ρ y)) :
  (jbc P op ty a b).Sat (qea P H β w base ((execOp ρ ⟨dst,.binOp op ty x y yt,t,pos,af,g⟩).run P w)):=by
 refine R.Sat.opt fun d hd => ?_
 split
 . rename_i hn
   refine R.Sat.opt fun c hc => ?_
   obtain ⟨_,h2,h3⟩:=qlv (w:=w) hd hn hc hx hy
   cases op
   case eql=>exact qjf h2 (h3 .eql (.inl rfl)) rfl
   case neq=>exact qjf h2 (h3 .neq (.inr rfl)) rfl
   all_goals trivial
 . trivial
theorem q1r {op:BinOp} {ty yt:TypeId} {x y:Operand} {a b:SV} (hx:a.den β=some (ρ x)) (hy:b.den β=some (ρ y)) :
  (qer P op ty a b).Sat (qea P H β w base ((execOp ρ ⟨dst,.binOp op ty x y yt,t,pos,af,g⟩).run P w)):=by
 unfold qer
 split
 . exact qx5 (by simpa [SV.den,eq_comm] using hx) (by simpa [SV.den,eq_comm] using hy)
 . exact q22 (by simpa [SV.den,eq_comm] using hx) (by simpa [SV.den,eq_comm] using hy)
 . exact qz5 hx hy
 . exact q05 hx hy
theorem qd9 {op:BinOp} {ty yt:TypeId} {x y:Operand} (hx:(ev x).den β=some (ρ x)) (hy:(ev y).den β=some (ρ y)) :
  (oBin op ty x y yt P ev H base).Sat (qea P H β w base ((execOp ρ ⟨dst,.binOp op ty x y yt,t,pos,af,g⟩).run P w)):=by
 unfold oBin binT
 rcases q1b (ev x) with ⟨k,n,h1⟩ | h1
 . rcases q1b (ev y) with ⟨k',n',h2⟩ | h2
   . rw [h1] at hx ⊢
     rw [h2] at hy ⊢
     exact qw5 (by simpa [SV.den,eq_comm] using hx) (by simpa [SV.den,eq_comm] using hy)
   . rw [h1]
     show R.Sat ((ev y).asInt _ _) _
     rw [h2,← h1]
     exact q1r hx hy
 . rw [h1]
   exact q1r hx hy
theorem j5d {op:UnOp} {ty:TypeId} {x:Operand} (hx:(ev x).den β=some (ρ x)) :
  (oUn op ty x P ev H base).Sat (qea P H β w base ((execOp ρ ⟨dst,.unOp op ty x,t,pos,af,g⟩).run P w)):=by
 unfold oUn unT
 split
 . rename_i b h
   rw [h] at hx; simp only [SV.den,SB.den,Option.some.injEq] at hx
   exact qga (x:=.bool (!b)) (by simp [execOp,← hx,Op.unary]) rfl
 . rename_i b _ h
   rw [h] at hx; simp only [SV.den,Option.some.injEq] at hx
   exact qga (x:=.bool (!b.den)) (by simp [execOp,← hx,Op.unary]) rfl
 . rename_i k n h
   rw [h] at hx; simp only [SV.den,Option.some.injEq] at hx
   refine (qzg .sub k (.lit 0) n).bind fun z hz=>qga (x:=.int k z.den) ?_ rfl
   have hz':k.wrap (0 - n.den)=z.den:=Option.some.inj hz
   have hu:Op.unary .neg (.int k n.den)=pure (.int k (k.wrap (0 - n.den))):=rfl
   simp only [execOp,← hx,hu,hz']
   rfl
 . rename_i n h
   rw [h] at hx; simp only [SV.den,Option.some.injEq] at hx
   refine (qzg .xor .u8 (.lit 255) n).bind fun z hz=>qga (x:=.int .u8 z.den) ?_ rfl
   have hz':qrd .xor .u8 255 n.den=z.den:=Option.some.inj hz
   have hu:Op.unary .xor (.int .u8 n.den)=pure (.int .u8 (qrd .xor .u8 255 n.den)):=rfl
   simp only [execOp,← hx,hu,hz']
   rfl
 . rename_i n h
   rw [h] at hx; simp only [SV.den,Option.some.injEq] at hx
   refine (qzg .xor .u32 (.lit 4294967295) n).bind fun z hz=>qga (x:=.int .u32 z.den) ?_ rfl
   have hz':qrd .xor .u32 4294967295 n.den=z.den:=Option.some.inj hz
   have hu:Op.unary .xor (.int .u32 n.den)=pure (.int .u32 (qrd .xor .u32 4294967295 n.den)):=rfl
   simp only [execOp,← hx,hu,hz']
   rfl
 . rename_i n h
   rw [h] at hx; simp only [SV.den,Option.some.injEq] at hx
   refine (qzg .xor .u64 (.lit 18446744073709551615) n).bind fun z hz=>qga (x:=.int .u64 z.den) ?_ rfl
   have hz':qrd .xor .u64 18446744073709551615 n.den=z.den:=Option.some.inj hz
   have hu:Op.unary .xor (.int .u64 n.den)=pure (.int .u64 (qrd .xor .u64 18446744073709551615 n.den)):=rfl
   simp only [execOp,← hx,hu,hz']
   rfl
 . trivial
theorem qe9 {ty:TypeId} {x:Operand} (hx:(ev x).den β=some (ρ x)) :
  (oArr ty x P ev H base).Sat (qea P H β w base ((execOp ρ ⟨dst,.sliceToArrayPointer ty x,t,pos,af,g⟩).run P w)):=by
 refine R.Sat.opt fun d hd => ?_
 have hu:=qaa (w:=w) hd
 split
 . rename_i n e
   split
   . rename_i a len c h
     rw [h] at hx
     rw [den_slice] at hx
     obtain ⟨A,C,hA,hC,hLC,hx⟩:=hx
     have key:n<=len.den->(vR (.ptr a)).Sat (qea P H β w base ((execOp ρ ⟨dst,.sliceToArrayPointer ty x,t,pos,af,g⟩).run P w)):=by
      intro hle
      refine qga (x:=.pointer (some A)) ?_ (by simp [SV.den,hA])
      simp only [execOp,← hx,Instr.arrayAt,Sem.run_bind,hu,Result.andThen_ok]
      rw [if_neg (by omega)]
      rfl
     split
     . rename_i l
       split
       . trivial
       . rename_i hb
         refine key ?_
         rcases Nat.lt_or_ge l n with h' | h'
         . have:Nat.blt l n=true:=by unfold Nat.blt; exact Nat.ble_eq_true_of_le h'
           rw [this] at hb; cases hb
         . exact h'
     . exact fun hle=>key hle
     . exact fun hle=>key hle
   . trivial
 . trivial
theorem q52 {ty:TypeId} {x:Operand} (hx:(ev x).den β=some (ρ x)) :
  (qh5 ty x P ev H base).Sat (qea P H β w base ((execOp ρ ⟨dst,.makeInterface ty x,t,pos,af,g⟩).run P w)):=by
 refine R.Sat.opt fun d hd => ?_
 have hu:=qaa (w:=w) hd
 cases d <;> first
  | trivial
  | exact qga (x:=.iface ty (ρ x)) (by simp [execOp,Instr.makeInterface,hu]) (by simp [SV.den,hx])
theorem q15 {fn:Fn} {xs ys:Array Operand} (hx:∀ x∈xs.toList,(ev x).den β=some (ρ x)) (hy:∀ x∈ys.toList,(ev x).den β=some (ρ x)) :
  (qi2 fn xs ys P ev H base).Sat (qea P H β w base ((execOp ρ ⟨dst,.makeFunc fn xs ys,t,pos,af,g⟩).run P w)):=by
 unfold qi2
 split
 . rename_i f
   refine qga (x:=.func (.func f) (xs.map ρ) (ys.map ρ)) (by simp [execOp,Instr.makeFunc]) ?_
   simp [SV.den,SFn.den,qud _ hx,qud _ hy]
   exact ⟨by simp [← Array.toList_map],by simp [← Array.toList_map]⟩
 . rename_i t' path f p
   refine qga (x:=.func (.via t' path f p) (xs.map ρ) (ys.map ρ)) (by simp [execOp,Instr.makeFunc]) ?_
   simp [SV.den,SFn.den,qud _ hx,qud _ hy]
   exact ⟨by simp [← Array.toList_map],by simp [← Array.toList_map]⟩
 . rename_i t' name
   refine qga (x:=.func (.methodOf t' name) (xs.map ρ) (ys.map ρ)) (by simp [execOp,Instr.makeFunc]) ?_
   simp [SV.den,SFn.den,qud _ hx,qud _ hy]
   exact ⟨by simp [← Array.toList_map],by simp [← Array.toList_map]⟩
 . trivial
theorem qft {A:Addr} {f:Field} {i:TypeInfo} (hi:P.info? f.type=some i) (h0:i.size≠0):(fieldPlace A f).run P w=.ok (A.add f.offset) w:=by
 simp [fieldPlace,q3a hi,h0]
theorem qgt {ty:TypeId} {x:Operand} {n:Nat} (hx:(ev x).den β=some (ρ x)) :
  (qhr ty x n P ev H base).Sat (qea P H β w base ((execOp ρ ⟨dst,.fieldAddr ty x n,t,pos,af,g⟩).run P w)):=by
 refine R.Sat.opt fun d hd=>q68 (fun fs hfs=>R.Sat.opt fun f hf=>R.Sat.opt fun i hi=>R.Sat.boolC (fun _=>trivial) fun h0=>qdg hx fun a A _ hA hρ => ?_) trivial
 have hu:=qaa (w:=w) hd
 subst hfs
 rw [qca] at hf
 have hf':fs[n]? = some f:=by rw [← hf]; simp
 have h0':i.size≠0:=fun h=>by rw [h] at h0; cases h0
 refine qga (x:=.pointer (some (A.add f.offset))) ?_ (by simp [SV.den,SA.plus_den hA,SN.den])
 simp [execOp,Instr.fieldAt,hu,hf',hρ,Instr.sureAddr,qft hi h0']
theorem qhn {ty:TypeId} {l:List SV} {vs:List Value} (hl:SV.denL β l=some vs) {off:Nat} {f:SV->R α} {φ:α->Prop}
  (hf:∀ v x,v.den β=some x->(part ty vs.toArray off).run P w=.ok x w->(f v).Sat φ):(q1v P ty l off f).Sat φ:=by
 refine R.Sat.opt fun d hd => ?_
 have hagg:=qan (w:=w) hd
 split
 . rename_i hb
   refine R.Sat.opt fun i hi => ?_
   rw [qoc,qdd]
   refine hf _ (.agg ((vs.drop off).take i.size).toArray) (by simp [SV.den,qjg (q6h hl off) i.size]) ?_
   simp only [part,Sem.run_bind,hagg,hb,Result.andThen_ok,if_true,q3a hi,Sem.run_pure]
   congr 2
   apply Array.ext'
   simp only [Array.toList_extract]
   rw [List.extract_eq_take_drop]
   simp
 . rename_i hb
   refine R.Sat.opt fun v hv => ?_
   rw [qca] at hv
   obtain ⟨x,hx,hd'⟩:=qed hl hv
   refine hf _ x hd' ?_
   have hb':qbc d=false:=by simpa using hb
   simp [part,hagg,hb',hx]
theorem q62 {ty:TypeId} {x:Operand} {n:Nat} (hx:(ev x).den β=some (ρ x)) :
  (qww ty x n P ev H base).Sat (qea P H β w base ((execOp ρ ⟨dst,.field ty x n,t,pos,af,g⟩).run P w)):=by
 unfold qww
 split
 . rename_i l h
   rw [h] at hx
   simp only [SV.den,Option.map_eq_some_iff] at hx
   obtain ⟨vs,hvs,hρ⟩:=hx
   refine R.Sat.opt fun d hd => ?_
   have hu:=qaa (w:=w) hd
   split
   . rename_i fs
     refine R.Sat.opt fun f hf=>qhn (w:=w) hvs fun v x hv hrun=>qga (x:=x) ?_ hv
     rw [qca] at hf
     have hf':fs[n]? = some f:=by rw [← hf]; simp
     simp [execOp,Instr.field,hu,hf',← hρ,asAgg,hrun]
   . trivial
 . trivial
theorem asSlice_cases (v:SV):(∃ a n c,v=.slice a n c)\/∀ {γ:Type} (d:γ) (f:SA->SN->SC->γ),v.asSlice d f=d:=by
 cases v <;> first | exact .inl ⟨_,_,_,rfl⟩ | exact .inr fun _ _=>rfl
theorem qht {ty:TypeId} {x i:Operand} (hx:(ev x).den β=some (ρ x)) (hi:(ev i).den β=some (ρ i)) :
  (qpl ty x i P ev H base).Sat (qea P H β w base ((execOp ρ ⟨dst,.indexAddr ty x i,t,pos,af,g⟩).run P w)):=by
 unfold qpl q8q
 refine R.Sat.opt fun d hd => ?_
 have hu:=qaa (w:=w) hd
 rcases q1b (ev i) with ⟨k,n,h1⟩ | h1
 . rw [h1] at hi ⊢
   simp only [SV.den,Option.some.injEq] at hi
   show R.Sat (TypeDesc.asArr d (TypeDesc.asSl d (.stuck 247) (ixSl P (ev x) n)) (j4b P (ev x) n)) _
   refine qu5 (fun m elem hdd => ?_) (qhq (fun elem hdd => ?_) trivial)
   . subst hdd
     refine qdg hx fun a A _ hA hρ=>R.Sat.opt fun e he=>qxl fun j h0 hlt hj => ?_
     refine qga (x:=.pointer (some (A.add (n.den.toNat * e.size)))) ?_ (by simp [SV.den,SA.plus_den hA,SN.mul_den,hj])
     simp only [SN.den] at hlt
     simp [execOp,Instr.indexAt,← hi,asIntOf,hu,hρ,Instr.sureAddr,h0,hlt,q3a he]
   . subst hdd
     unfold ixSl
     split
     . rename_i a n' len c h2
       rw [h2,qdc] at hx
       obtain ⟨A,C,hA,hC,hle,hρ⟩:=hx
       refine R.Sat.opt fun e he=>qxl fun j h0 hlt hj => ?_
       have hC0:¬ C=0:=by omega
       rw [if_neg hC0] at hρ
       refine qga (x:=.pointer (some ((A.add n'.den).add (n.den.toNat * e.size)))) ?_ (by simp [SV.den,SA.plus_den (SA.plus_den hA n'),SN.mul_den,hj])
       simp [execOp,Instr.indexAt,← hi,asIntOf,hu,← hρ,h0,hlt,q3a he]
     rename_i hnt
     clear hnt
     unfold j5b
     rcases asSlice_cases (ev x) with ⟨a,len,c,h2⟩ | h2
     . rw [h2] at hx ⊢
       rw [den_slice] at hx
       obtain ⟨A,C,hA,hC,_,hρ⟩:=hx
       refine R.Sat.opt fun e he=>qxl fun j h0 hlt hj => ?_
       refine qga (x:=.pointer (some (A.add (n.den.toNat * e.size)))) ?_ (by simp [SV.den,SA.plus_den hA,SN.mul_den,hj])
       simp [execOp,Instr.indexAt,← hi,asIntOf,hu,← hρ,h0,hlt,q3a he]
     . rw [h2]; trivial
 . rw [h1]; trivial
theorem q72 {ty:TypeId} {x i:Operand} (hx:(ev x).den β=some (ρ x)) (hi:(ev i).den β=some (ρ i)) :
  (qxw ty x i P ev H base).Sat (qea P H β w base ((execOp ρ ⟨dst,.index ty x i,t,pos,af,g⟩).run P w)):=by
 unfold qxw q44
 refine R.Sat.opt fun d hd => ?_
 have hu:=qaa (w:=w) hd
 split
 . rename_i k n h1
   rw [h1] at hi
   simp only [SV.den,Option.some.injEq] at hi
   split
   . rename_i m elem l h2
     rw [h2] at hx
     simp only [SV.den,Option.map_eq_some_iff] at hx
     obtain ⟨vs,hvs,hρ⟩:=hx
     refine R.Sat.opt fun e he=>qxl fun j h0 hlt hj => ?_
     cases j with
     | sym=>trivial
     | byt=>trivial
     | lit j =>
       refine qhn (w:=w) hvs fun v x hv hrun=>qga (x:=x) ?_ hv
       simp only [SN.den] at hlt hj
       subst hj
       simp [execOp,Instr.index,← hi,asIntOf,hu,← hρ,h0,hlt,q3a he,hrun]
   . rename_i s h2
     rw [h2] at hx
     simp only [SV.den,Option.some.injEq] at hx
     have key:∀ (v:SV) (b:UInt8),0<=n.den->s.den.data[n.den.toNat]? = some b->v.den β=some (.int .u8 (b.toNat:Int))->(vR v).Sat (qea P H β w base ((execOp ρ ⟨dst,.index ty x i,t,pos,af,g⟩).run P w)):=by
      intro v b h0 hb hv
      refine qga ?_ hv
      have hb':s.den[n.den.toNat]? = some b:=by
       obtain ⟨hlt,hget⟩:=Array.getElem?_eq_some_iff.1 hb
       rw [getElem?_pos s.den n.den.toNat hlt]
       exact congrArg some hget
      simp [execOp,Instr.index,← hi,asIntOf,hu,← hx,h0,hb']
     split
     . rename_i s i'
       split
       . rename_i h0
         refine R.Sat.opt fun b hb=>key _ b h0 ?_ rfl
         rw [qca] at hb
         simp only [SStr.den,SI.den]
         rw [← hb]; simp
       . trivial
     . rename_i l i'
       split
       . rename_i h0
         refine R.Sat.opt fun b hb => ?_
         rw [qca] at hb
         have hget:∀ b,l[i'.toNat]? = some b->(SStr.bytes l).den.data[(SI.lit i').den.toNat]? = some (UInt8.ofNat b.den.toNat):=by
          intro b hb
          simp only [SStr.den,bytesOf,SI.den,List.getElem?_toArray,List.getElem?_map,hb,Option.map_some]
         split
         . rename_i x8
           refine key _ _ h0 (hget _ hb) ?_
           simp only [SV.den,SI.den,Int.toNat_natCast]
           rw [UInt8.toNat_ofNat',Nat.mod_eq_of_lt x8.isLt]
         . rename_i hbnd
           rintro ⟨h1,h2⟩
           refine key _ _ h0 (hget _ hb) ?_
           simp only [SV.den,UInt8.toNat_ofNat']
           rw [Nat.mod_eq_of_lt (by omega)]
           congr 2; omega
       . trivial
     . rintro ⟨h0,hlt⟩
       have hlt':n.den.toNat<s.den.data.size:=by
        have:s.den.size=s.den.data.size:=rfl
        omega
       refine key _ (s.den.data[n.den.toNat]) h0 (Array.getElem?_eq_getElem hlt') ?_
       have hg:s.den.data.getD n.den.toNat 0=s.den.data[n.den.toNat]:=by
        rw [Array.getD_eq_getD_getElem?,Array.getElem?_eq_getElem hlt']; rfl
       show some (Value.int .u8 (((s.den.data.getD n.den.toNat 0).toBitVec.toNat:Nat):Int))=_
       rw [hg]; rfl
   . trivial
 . trivial
theorem qjx {x:Operand} {n:Nat} (hx:(ev x).den β=some (ρ x)) :
  (qcq x n P ev H base).Sat (qea P H β w base ((execOp ρ ⟨dst,.extract x n,t,pos,af,g⟩).run P w)):=by
 unfold qcq
 split
 . rename_i l h
   rw [h] at hx
   simp only [SV.den,Option.map_eq_some_iff] at hx
   obtain ⟨vs,hvs,hρ⟩:=hx
   refine R.Sat.opt fun v hv => ?_
   rw [qca] at hv
   obtain ⟨x,hx',hd⟩:=qed hvs hv
   exact qga (x:=x) (by simp [execOp,Instr.extract,← hρ,hx']) hd
 . trivial
end
end
noncomputable section
variable {α:Type}
section
variable {P:Program} {O:Nat->Prop} {w0:World} {β:Val} {H:List SO} {w:World} {base:Nat}
variable {ev:Operand->SV} {ρ:Operand->Value} {dst:Option Tmp} {t:TypeId} {pos:String} {af:Array Edge} {g:Option (Nat × Bool)}
def ODen (β:Val) (v:Option SV) (x:Option Value):Prop :=
 match v,x with
 | none,none=>True
 | some v,some x=>v.den β=some x
 | _,_=>False
def q6i (x:Option Value) (y d j:Nat):Prop :=
 match x with
 | some x=>∃ k i,x=.int k i/\0<=i/\i<=(y:Int)/\j=i.toNat
 | none=>j=d
theorem q9b {k:IntKind} {i:Int} {y:Nat} {c:BoundsCode} (h0:0<=i) (h1:i<=(y:Int)):(Instr.sliceBound (.int k i) y c).run P w=.ok i.toNat w:=by
 unfold Instr.sliceBound asIntOf
 simp only [Sem.run_bind,Sem.run_pure,Result.andThen_ok]
 rw [if_pos ⟨h0,h1⟩]; rfl
theorem qnb {v:Option SV} {x:Option Value} (hv:ODen β v x) {y d:SN} {f:SN->R α} {φ:α->Prop}
  (hf:∀ j:SN,q6i x y.den d.den j.den->(f j).Sat φ):(qnc v y d f).Sat φ:=by
 unfold qnc
 split
 . cases x with
   | none=>exact hf d rfl
   | some x=>exact hv.elim
 . rename_i k i
   cases x with
   | none=>exact hv.elim
   | some x =>
     have hx:x=.int k i.den:=by
      have:(SV.int k i).den β=some x:=hv
      simpa [SV.den,eq_comm] using this
     exact q48 fun j h0 h1 hj=>hf j ⟨k,i.den,hx,h0,h1,hj⟩
 . trivial
theorem qvd {isSl:Bool} {len cap l h m:Nat} {lo hi mx:Option Value} (hm:q6i mx cap cap m) (hhi:mx.isSome=true->hi.isSome=true) (hh:q6i hi m len h)
  (hl:q6i lo h 0 l):(Instr.sliceBounds isSl len cap lo hi mx).run P w=.ok (l,h,m) w:=by
 unfold Instr.sliceBounds
 cases mx with
 | none =>
   have hm:m=cap:=hm
   subst hm
   cases hi with
   | none =>
     have hh:h=len:=hh
     subst hh
     cases lo with
     | none=>have hl:l=0:=hl; subst hl; rfl
     | some z =>
       obtain ⟨k,i,rfl,h0,h1,rfl⟩:=hl
       simp [q9b h0 h1]
   | some y =>
     obtain ⟨k,i,rfl,h0,h1,rfl⟩:=hh
     cases lo with
     | none=>have hl:l=0:=hl; subst hl; simp [q9b h0 h1]
     | some z =>
       obtain ⟨k',i',rfl,h0',h1',rfl⟩:=hl
       simp [q9b h0 h1,q9b h0' h1']
 | some x =>
   obtain ⟨k'',i'',rfl,h0'',h1'',rfl⟩:=hm
   cases hi with
   | none=>cases hhi rfl
   | some y =>
     obtain ⟨k,i,rfl,h0,h1,rfl⟩:=hh
     cases lo with
     | none=>have hl:l=0:=hl; subst hl; simp [q9b h0 h1,q9b h0'' h1'']
     | some z =>
       obtain ⟨k',i',rfl,h0',h1',rfl⟩:=hl
       simp [q9b h0 h1,q9b h0' h1',q9b h0'' h1'']
theorem qit {a:SA} {A:Addr} (ha:a.den β=some A) {m l:Nat} (n:SN) (hn:n.den=l * m) (c:Prop) [Decidable c] :
  (if c then a else a.plus n).den β=some (if c then A else A.add (l * m)):=by
 split
 . exact ha
 . rw [SA.plus_den ha,hn]
theorem q3j (A:Addr):A.add 0=A:=by simp [Addr.add]
theorem qkx {a:SA} {n h:SN} {c:SC} {m l:Nat} {φ:OpRes->Prop} (hk:(vR (.slice (if m=l then a else a.plus n) h c)).Sat φ):(slAt a n h c (decide (m=l))).Sat φ:=by
 refine ⟨fun he => ?_,fun he => ?_⟩
 . have:=of_decide_eq_true he
   rw [if_pos this] at hk; exact hk
 . have:=of_decide_eq_false he
   rw [if_neg this] at hk; exact hk
theorem qq0 (n:SN):n.toC.den β=some n.den:=by cases n <;> rfl
theorem q82 {c:SC} {n:SN} (h:q3v c=some n):c.den β=some n.den:=by
 cases c <;> simp [q3v] at h <;> subst h <;> rfl
theorem qin {c c':SC} {n:SN} (h:c.less n=some c') {x:Nat} (hc:c.den β=some x):c'.den β=some (x - n.den):=by
 cases c with
 | lit m=>cases n <;> simp [SC.less] at h <;> subst h <;> simp [SC.den] at hc ⊢ <;> subst hc <;> rfl
 | sym m=>simp [SC.less] at h; subst h; simp [SC.den] at hc ⊢; subst hc; rfl
 | rest nm k =>
   cases n with
   | byt o x=>simp [SC.less] at h
   | sym m =>
     simp [SC.less] at h; subst h
     simp only [SC.den,Option.map_eq_some_iff] at hc ⊢
     obtain ⟨l,hl,rfl⟩:=hc
     exact ⟨l,hl,by simp only [SN.den]; omega⟩
   | lit m =>
     simp [SC.less] at h; subst h
     simp only [SC.den,Option.map_eq_some_iff] at hc ⊢
     obtain ⟨l,hl,rfl⟩:=hc
     exact ⟨l,hl,by simp only [SN.den]; omega⟩
theorem ODen.isSome {v:Option SV} {x:Option Value} (h:ODen β v x):v.isSome=x.isSome:=by
 cases v <;> cases x <;> first | rfl | exact h.elim
theorem q92 {ty:TypeId} {x:Operand} {lo hi mx:Option Operand} (hx:(ev x).den β=some (ρ x)) (hlo:ODen β (lo.map ev) (lo.map ρ)) (hhi:ODen β (hi.map ev) (hi.map ρ)) (hmx:ODen β (mx.map ev) (mx.map ρ)) :
  (qvw ty x lo hi mx P ev H base).Sat (qea P H β w base ((execOp ρ ⟨dst,.slice ty x lo hi mx,t,pos,af,g⟩).run P w)):=by
 unfold qvw
 generalize hlo':lo.map ev=slo at hlo
 generalize hhi':hi.map ev=shi at hhi
 generalize hmx':mx.map ev=smx at hmx
 have hrun:(execOp ρ ⟨dst,.slice ty x lo hi mx,t,pos,af,g⟩).run P w=((Instr.sliceAt ty (ρ x) (lo.map ρ) (hi.map ρ) (mx.map ρ)).run P w).andThen fun v w'=>.ok (.value v) w':=by
  simp [execOp]
 rw [hrun]
 generalize lo.map ρ=vlo at hlo
 generalize hi.map ρ=vhi at hhi
 generalize mx.map ρ=vmx at hmx
 clear hrun hlo' hhi' hmx'
 refine R.Sat.opt fun d hd=>R.Sat.boolC (fun hok => ?_) fun _=>trivial
 have hu:=qaa (w:=w) hd
 have hhi':vmx.isSome=true->vhi.isSome=true:=by
  intro h
  rw [← hmx.isSome] at h
  rw [← hhi.isSome]
  cases smx with
  | none=>cases h
  | some m=>cases shi with
    | none=>cases hok
    | some h=>rfl
 have hsl:∀ (elem:TypeId) (a:SA) (len:SN) (cap:SC) (A:Addr) (C:Nat) (e:TypeInfo),(underlying ty).run P w=.ok (.slice elem) w->a.den β=some A->cap.den β=some C->len.den<=C->.slice (some A) len.den C=ρ x->P.info? elem=some e ->
   (optC smx (sl2 a len cap e slo shi) fun _=>sl3 a len cap e slo shi smx).Sat (qea P H β w base (((Instr.sliceAt ty (ρ x) vlo vhi vmx).run P w).andThen fun v w'=>.ok (.value v) w')):=by
  intro elem a len cap A C e hu hA hC hLC hρ he
  have hfin:∀ (m h l:Nat),(Instr.sliceBounds true len.den C vlo vhi vmx).run P w=.ok (l,h,m) w ->
    ∀ v:SV,v.den β=some (.slice (some (if m=l then A else A.add (l * e.size))) (h - l) (m - l))->(vR v).Sat (qea P H β w base (((Instr.sliceAt ty (ρ x) vlo vhi vmx).run P w).andThen fun v w'=>.ok (.value v) w')):=by
   intro m h l hb v hv
   refine qga ?_ hv
   simp only [Instr.sliceAt,Instr.slice,Sem.run_bind,hu,Result.andThen_ok,← hρ,hb,q3a he,Sem.run_pure]
   congr 2
   split <;> rfl
  cases smx with
  | some sm =>
    have key3:∀ c:SN,c.den<=C->(sl3c a c e slo shi (some sm)).Sat (qea P H β w base (((Instr.sliceAt ty (ρ x) vlo vhi vmx).run P w).andThen fun v w'=>.ok (.value v) w')):=by
     intro c hcC
     refine qnb hmx fun m hm=>qnb hhi fun h hh=>qnb hlo fun l hl => ?_
     have hmx':=hmx.isSome
     cases vmx with
     | none=>cases hmx'
     | some xm =>
       obtain ⟨k,i,h1,h2,h3,h4⟩:=hm
       have hb:=qvd (P:=P) (w:=w) (isSl:=true) (len:=len.den) (cap:=C) (mx:=some xm) ⟨k,i,h1,h2,by omega,h4⟩ hhi' (h:=h.den) (by
        cases vhi with
        | none=>cases hhi' rfl
        | some y=>exact hh) hl
       have hhm:h.den<=m.den:=by
        cases vhi with
        | none=>cases hhi' rfl
        | some x=>obtain ⟨k,i,_,_,h1,h2⟩:=hh; omega
       have key:∀ (n':SN) (c:SC),n'.den=l.den * e.size->c.den β=some (m.den - l.den)->(vR (.slice (if m.den=l.den then a else a.plus n') (h.sub l) c)).Sat (qea P H β w base
         (((Instr.sliceAt ty (ρ x) vlo vhi (some xm)).run P w).andThen fun v w'=>.ok (.value v) w')):=by
        intro n' c hn' hc
        refine hfin _ _ _ hb _ ?_
        rw [den_slice]
        exact ⟨_,_,qit hA n' hn' _,hc,by rw [SN.sub_den]; omega,by rw [SN.sub_den]⟩
       have key0:∀ (c:SC),c.den β=some m.den->l.den=0->(vR (.slice a h c)).Sat (qea P H β w base
         (((Instr.sliceAt ty (ρ x) vlo vhi (some xm)).run P w).andThen fun v w'=>.ok (.value v) w')):=by
        intro c hc h0
        refine hfin _ _ _ hb _ ?_
        rw [den_slice]
        refine ⟨A,_,hA,hc,hhm,?_⟩
        simp only [h0,Nat.zero_mul,q3j,Nat.sub_zero]
        congr 2
        split <;> rfl
       split
       . exact key _ _ rfl rfl
       . exact key0 _ (qq0 _) rfl
       . exact qkx (key _ _ (SN.mul_den _ _) rfl)
    show (sl3 a len cap e slo shi (some sm)).Sat _
    unfold sl3
    cases hc:q3v cap with
    | none=>exact key3 len hLC
    | some c=>exact key3 c (by have:=q82 (β:=β) hc; rw [hC] at this; exact Nat.le_of_eq (Option.some.inj this).symm)
  | none =>
    have hmx':=hmx.isSome
    cases vmx with
    | some xm=>cases hmx'
    | none =>
      show (sl2 a len cap e slo shi).Sat _
      refine qnb hhi fun h hh=>qnb hlo fun l hl => ?_
      have hhl:h.den<=len.den:=by
       cases vhi with
       | none=>rw [show h.den=len.den from hh]; exact Nat.le_refl _
       | some x=>obtain ⟨k,i,_,_,h1,h2⟩:=hh; omega
      have hb:=qvd (P:=P) (w:=w) (isSl:=true) (len:=len.den) (cap:=C) (m:=C) (mx:=none) rfl hhi' (h:=h.den) (by
       cases vhi with
       | none=>exact hh
       | some y=>obtain ⟨k,i,h0,h1,h2,h3⟩:=hh; exact ⟨k,i,h0,h1,by omega,h3⟩) hl
      have hlh:l.den<=h.den:=by
       cases vlo with
       | none=>rw [show l.den=0 from hl]; exact Nat.zero_le _
       | some x=>obtain ⟨k,i,_,_,h1,h2⟩:=hl; omega
      split
      . refine hfin _ _ _ hb _ ?_
        rw [den_slice]
        refine ⟨A,C,hA,hC,by omega,?_⟩
        simp only [SN.den,Nat.zero_mul,q3j,Nat.sub_zero]
        congr 2
        split <;> rfl
      . split
        . rename_i c l' _
          simp only [SC.den,Option.some.injEq] at hC
          subst hC
          refine hfin _ _ _ hb _ ?_
          rw [den_slice]
          exact ⟨_,_,qit hA (.lit (l' * e.size)) rfl _,rfl,by rw [SN.sub_den]; simp only [SN.den] at *; omega,by rw [SN.sub_den]; rfl⟩
        . refine R.Sat.opt fun c' hc' => ?_
          have hmoved:l.den<len.den->(vR (.slice (a.plus (l.mul e.size)) (h.sub l) c')).Sat (qea P H β w base (((Instr.sliceAt ty (ρ x) vlo vhi none).run P w).andThen fun v w'=>.ok (.value v) w')):=by
           intro hlt
           refine hfin _ _ _ hb _ ?_
           rw [den_slice]
           refine ⟨_,_,SA.plus_den hA _,qin hc' hC,by rw [SN.sub_den]; omega,?_⟩
           rw [SN.sub_den,SN.mul_den,if_neg (by omega)]
          have htail:(vR (.tail a (l.mul e.size) (h.sub l) c')).Sat (qea P H β w base (((Instr.sliceAt ty (ρ x) vlo vhi none).run P w).andThen fun v w'=>.ok (.value v) w')):=by
           refine hfin _ _ _ hb _ ?_
           rw [qdc]
           refine ⟨A,_,hA,qin hc' hC,by rw [SN.sub_den]; omega,?_⟩
           rw [SN.sub_den,SN.mul_den]
           congr 2
           by_cases hCl:C=l.den
           . rw [if_pos (by omega),if_pos hCl]
           . rw [if_neg (by omega),if_neg hCl]
          have h0:(qqw a len e.size h l c').Sat (qea P H β w base (((Instr.sliceAt ty (ρ x) vlo vhi none).run P w).andThen fun v w'=>.ok (.value v) w')) :=
           SN.asLit_sat (fun x hx=>SN.asLit_sat (fun y hy=>R.Sat.boolC (fun hlt=>hmoved (by rw [hx,hy]; exact Nat.le_of_ble_eq_true hlt)) fun _=>htail) fun _=>htail) fun _=>htail
          refine SN.asLit_sat (fun d hd=>R.Sat.boolC (fun hpos => ?_) fun _=>h0) fun _=>h0
          have hd':h.den - l.den=d:=by rw [← SN.sub_den,hd]; rfl
          have hp:0<d:=Nat.le_of_ble_eq_true hpos
          refine hfin _ _ _ hb _ ?_
          rw [den_slice]
          refine ⟨_,_,SA.plus_den hA _,qin hc' hC,by rw [SN.sub_den]; omega,?_⟩
          rw [SN.sub_den,SN.mul_den,if_neg (by omega)]
 split
 ·
  rename_i n elem a h
  rw [h] at hx
  simp only [SV.den,Option.map_eq_some_iff] at hx
  obtain ⟨A,hA,hρ⟩:=hx
  refine R.Sat.opt fun e he=>qnb hmx fun m hm=>qnb hhi fun h hh=>qnb hlo fun l hl => ?_
  have hb:=qvd (P:=P) (w:=w) (isSl:=false) (len:=n) (cap:=n) hm hhi' hh hl
  have hmn:m.den<=n:=by
   cases vmx with
   | none=>rw [show m.den=n from hm]; exact Nat.le_refl _
   | some x=>obtain ⟨k,i,_,_,h1,h2⟩:=hm; simp only [SN.den] at h1; omega
  have hhm:h.den<=m.den:=by
   cases vhi with
   | none =>
     cases vmx with
     | none=>rw [show h.den=n from hh,show m.den=n from hm]; exact Nat.le_refl _
     | some x=>cases hhi' rfl
   | some x=>obtain ⟨k,i,_,_,h1,h2⟩:=hh; omega
  have key:∀ (n':SN) (c:SC),n'.den=l.den * e.size->c.den β=some (m.den - l.den)->(vR (.slice (if m.den=l.den then a else a.plus n') (h.sub l) c)).Sat (qea P H β w base
    (((Instr.sliceAt ty (ρ x) vlo vhi vmx).run P w).andThen fun v w'=>.ok (.value v) w')):=by
   intro n' c hn' hc
   refine qga (x:=.slice (some (if m.den=l.den then A else A.add (l.den * e.size))) (h.den - l.den) (m.den - l.den)) ?_ ?_
   . simp only [Instr.sliceAt,Sem.run_bind,hu,Result.andThen_ok,← hρ,Instr.sureAddr,Sem.run_pure,hb,q3a he]
   . rw [den_slice]
     exact ⟨_,_,qit hA n' hn' _,hc,by rw [SN.sub_den]; omega,by rw [SN.sub_den]⟩
  have key0:∀ (c:SC),c.den β=some m.den->l.den=0->(vR (.slice a h c)).Sat (qea P H β w base
    (((Instr.sliceAt ty (ρ x) vlo vhi vmx).run P w).andThen fun v w'=>.ok (.value v) w')):=by
   intro c hc h0
   refine qga (x:=.slice (some (if m.den=l.den then A else A.add (l.den * e.size))) (h.den - l.den) (m.den - l.den)) ?_ ?_
   . simp only [Instr.sliceAt,Sem.run_bind,hu,Result.andThen_ok,← hρ,Instr.sureAddr,Sem.run_pure,hb,q3a he]
   . rw [den_slice]
     refine ⟨A,_,hA,hc,hhm,?_⟩
     simp only [h0,Nat.zero_mul,q3j,Nat.sub_zero]
     congr 2
     split <;> rfl
  unfold j6b at *
  split
  . exact key _ _ rfl rfl
  . exact key0 _ (qq0 _) rfl
  . exact qkx (key _ _ (SN.mul_den _ _) rfl)
 . rename_i elem a len cap h
   rw [h,den_slice] at hx
   obtain ⟨A,C,hA,hC,hLC,hρ⟩:=hx
   exact R.Sat.opt fun e he=>hsl elem a len cap A C e hu hA hC hLC hρ he
 . rename_i elem a n len cap h
   rw [h,qdc] at hx
   obtain ⟨A,C,hA,hC,hLC,hρ⟩:=hx
   intro hpos
   rw [if_neg (by omega)] at hρ
   exact R.Sat.opt fun e he=>hsl elem (a.plus n) len cap _ C e hu (SA.plus_den hA n) hC hLC hρ he
 . rename_i elem h
   rw [h] at hx
   simp only [SV.den,Option.some.injEq] at hx
   refine R.Sat.opt fun e he=>qnb hmx fun m hm=>qnb hhi fun h hh=>qnb hlo fun l hl => ?_
   have hb:=qvd (P:=P) (w:=w) (isSl:=true) (len:=0) (cap:=0) hm hhi' hh hl
   have hm0:m.den=0:=by
    cases vmx with
    | none=>exact hm
    | some x=>obtain ⟨k,i,_,_,h1,h2⟩:=hm; simp only [SN.den] at h1; omega
   have hh0:h.den=0:=by
    cases vhi with
    | none=>exact hh
    | some x=>obtain ⟨k,i,_,_,h1,h2⟩:=hh; omega
   have hl0:l.den=0:=by
    cases vlo with
    | none=>exact hl
    | some x=>obtain ⟨k,i,_,_,h1,h2⟩:=hl; omega
   refine qga (x:=.slice none 0 0) ?_ rfl
   simp only [Instr.sliceAt,Instr.slice,Sem.run_bind,hu,Result.andThen_ok,← hx,hb,q3a he,Sem.run_pure]
   rw [hm0,hl0,hh0]; rfl
 . rename_i s h
   rw [h] at hx
   simp only [SV.den,Option.some.injEq] at hx
   cases smx with
   | some sm=>trivial
   | none =>
     have hmx':=hmx.isSome
     cases vmx with
     | some xm=>cases hmx'
     | none =>
       show (q51 s slo shi).Sat _
       have key:∀ (y:SN),y.den=s.den.size->∀ h l:SN,q6i vhi y.den y.den h.den->q6i vlo h.den 0 l.den->h.den<=s.den.size/\l.den<=h.den/\∀ v:SStr,v.den=s.den.extract l.den h.den->(vR (.str v)).Sat (qea P H β w base (((Instr.sliceAt ty (ρ x) vlo vhi none).run P w).andThen fun v w'=>.ok (.value v) w')):=by
        intro y hy h l hh hl
        have hb:=qvd (P:=P) (w:=w) (isSl:=false) (len:=s.den.size) (cap:=s.den.size) (m:=s.den.size) (mx:=none) rfl hhi' (h:=h.den) (by rw [hy] at hh; exact hh) hl
        refine ⟨?_,?_,fun v hv => ?_⟩
        . cases vhi with
          | none=>rw [show h.den=y.den from hh,hy]; exact Nat.le_refl _
          | some x=>obtain ⟨k,i,_,_,h1,h2⟩:=hh; omega
        . cases vlo with
          | none=>rw [show l.den=0 from hl]; exact Nat.zero_le _
          | some x=>obtain ⟨k,i,_,_,h1,h2⟩:=hl; omega
        . refine qga (x:=.string (s.den.extract l.den h.den)) ?_ (by simp [SV.den,hv])
          simp only [Instr.sliceAt,Instr.slice,Sem.run_bind,hu,Result.andThen_ok,← hx,Option.isSome_none,Bool.false_eq_true,if_false,hb,Sem.run_pure]
       unfold q51
       split
       . rename_i s'
         refine qnb hhi fun h hh=>qnb hlo fun l hl => ?_
         obtain ⟨_,_,k⟩:=key _ rfl h l hh hl
         split
         . exact k _ rfl
         . exact k _ rfl
       . rename_i b
         have hsz:(SN.lit (lenN b)).den=(SStr.bytes b).den.size:=by
          show lenN b=(b.map fun i=>UInt8.ofNat i.den.toNat).toArray.size
          rw [qha]; simp
         refine qnb hhi fun h hh=>qnb hlo fun l hl => ?_
         obtain ⟨h1,h2,k⟩:=key _ hsz h l hh hl
         split
         . refine k _ ?_
           rename_i l' h'
           simp only [SStr.den,bytesOf,SN.den] at *
           rw [qoc,qdd]
           apply ByteArray.ext
           apply Array.ext'
           rw [ByteArray.data_extract,Array.toList_extract,List.extract_eq_take_drop]
           simp
         . trivial
       . rename_i s'
         refine qnb hhi fun h hh=>qnb hlo fun l hl => ?_
         obtain ⟨_,_,k⟩:=key _ rfl h l hh hl
         exact k _ rfl
 . trivial
end
end
noncomputable section
variable {α:Type}
section
variable {P:Program} {O:Nat->Prop} {w0:World} {β:Val} {H:List SO} {w:World} {base:Nat}
variable {ev:Operand->SV} {ρ:Operand->Value} {dst:Option Tmp} {t:TypeId} {pos:String} {af:Array Edge} {g:Option (Nat × Bool)}
theorem q25 (ns:List Int):∀ r:ByteArray,ns.foldl (fun (r:ByteArray) n=>r.push (UInt8.ofNat n.toNat)) r=⟨r.data++(ns.map fun n=>UInt8.ofNat n.toNat).toArray⟩:=by
 induction ns with
 | nil=>intro r; simp
 | cons n ns ih=>intro r; rw [List.foldl_cons,ih]; simp [ByteArray.push]
theorem qjn {A:Addr} {len cap:Nat} {ns:List Int} (hn:ns.length=len) (h:∀ (j:Nat) (x:Value),(ns.map (Value.int .u8))[j]? = some x->w.cell? (A.add j)=some x) :
  (Conv.bytesToString (.slice (some A) len cap)).run P w=.ok (.string ⟨(ns.map fun n=>UInt8.ofNat n.toNat).toArray⟩) w:=by
 have:=run_bytesToString (P:=P) w A len cap ns (q9f (by simpa using hn) h)
 rw [this,q25]
 show Result.ok (Value.string ⟨#[]++_⟩) w=_
 simp
theorem qmv {l:List SV} {b:List SI} (h:qll l=some b):l=b.map fun i=>.int .u8 i:=by
 induction l generalizing b with
 | nil=>simp [qll] at h; subst h; rfl
 | cons v l ih =>
   have h':(match siOf v with | some n=>(qll l).map (n :: ·) | none=>none)=some b:=h
   cases hv:siOf v with
   | none=>rw [hv] at h'; cases h'
   | some n =>
     rw [hv] at h'
     simp only [Option.map_eq_some_iff] at h'
     obtain ⟨b',hb',rfl⟩:=h'
     rw [ih hb',List.map_cons]
     congr 1
     unfold siOf at hv
     split at hv
     . cases hv; rfl
     . cases hv
theorem qkn (β:Val) (b:List SI):SV.denL β (b.map fun i=>.int .u8 i)=some (b.map fun i=>.int .u8 i.den):=by
 induction b with
 | nil=>rfl
 | cons i b ih=>exact denL_cons.2 ⟨_,_,rfl,ih,rfl⟩
theorem qf9 {α β:Type} {o:Option β} {f:β->R α} {n:Nat} {φ:α->Prop} (h:∀ a,o=some a->(f a).Sat φ):(optC o (.stuck n) f).Sat φ:=by
 cases o with
 | none=>trivial
 | some a=>exact h a rfl
theorem q2r (hr:HeapRel0 P O w0 β H w) {a:SA} {A:Addr} {len:SN} (hA:a.den β=some A) {res:Result Next}
  (hfin:∀ (ns:List Int) (s:SStr),ns.length=len.den->(∀ (j:Nat) (x:Value),(ns.map (Value.int .u8))[j]? = some x->w.cell? (A.add j)=some x)->s.den=⟨(ns.map fun n=>UInt8.ofNat n.toNat).toArray⟩->(vR (.str s)).Sat (qea P H β w base res))
  {e:SO} (he:H[a.nm]? = some e):(qrw e a.off len).Sat (qea P H β w base res):=by
 have key:∀ c,e.cells? = some c->(qbr c a.off len).Sat (qea P H β w base res):=by
  intro c hc
  obtain ⟨l,vs,hl,hcr,hcell⟩:=qub hr he hc
  obtain ⟨l',hl',rfl⟩:=SA.den_some hA
  rw [hl] at hl'; cases hl'
  cases c with
  | lst ls =>
    unfold qbr
    simp only
    split
    . rename_i o n ho
      split
      . rename_i hn
        refine R.Sat.opt fun b hb => ?_
        have hb':=qmv hb
        rw [qoc,qdd] at hb' hn
        rw [qha] at hn
        have hd:=qjg (q6h hcr o) n
        rw [hb',qkn] at hd
        have hd':b.map (fun i=>Value.int .u8 i.den)=(vs.drop o).take n:=Option.some.inj hd
        refine hfin (b.map SI.den) _ ?_ ?_ ?_
        . have:=congrArg List.length hb'
          simp only [List.length_map] at this ⊢
          simp only [SN.den]; omega
        . intro j x hx
          rw [List.map_map] at hx
          have hx':(b.map (fun i=>Value.int .u8 i.den))[j]? = some x:=hx
          rw [hd',List.getElem?_take] at hx'
          split at hx'
          . rw [List.getElem?_drop] at hx'
            rw [q8a,Nat.add_assoc,ho]
            exact hcell _ _ hx'
          . cases hx'
        . rw [qar]; simp [bytesOf]
      . trivial
    . rename_i len0 _ _ _
      refine qf9 fun xs hx => ?_
      obtain ⟨hl1,hl2⟩:=qif hx hcr
      rw [qha]
      intro hle
      refine hfin ((List.range len0.den).map fun i=>((q4a xs (a.off.den+i)).toNat:Int)) _ (by simp) ?_ ?_
      . intro j x hx'
        simp only [List.map_map,List.getElem?_map,Option.map_eq_some_iff] at hx'
        obtain ⟨j',hj',rfl⟩:=hx'
        have hj:j<len0.den:=by
         have:=(List.getElem?_eq_some_iff.1 hj').1; simpa using this
        rw [List.getElem?_range hj] at hj'
        cases hj'
        rw [q8a,Nat.add_assoc]
        exact hcell _ _ (hl2 (a.off.den+j) (by omega))
      . simp [SStr.den,qkd,qna,SV.num,SI.den]
  | raw V n=>trivial
  | fn f n =>
    rintro ⟨hle,hb⟩
    obtain ⟨hlen,hf⟩:=hcr
    have hint:∀ i,i<n->f i=.int .u8 (.sym (f i).num)\/(f i).den β=some (.int .u8 (f i).num):=by
     intro i hi
     right
     have:=hb i hi
     cases hfi:f i <;> rw [hfi] at this <;> first | exact this.elim | skip
     rename_i k m
     cases k <;> first | exact this.elim | rfl
    refine hfin ((List.range len.den).map fun i=>(f (a.off.den+i)).num) _ (by simp) ?_ ?_
    . intro j x hx
      simp only [List.map_map,List.getElem?_map,Option.map_eq_some_iff] at hx
      obtain ⟨j',hj',rfl⟩:=hx
      have hj:j<len.den:=by
       have:=(List.getElem?_eq_some_iff.1 hj').1; simpa using this
      rw [List.getElem?_range hj] at hj'
      cases hj'
      have hlt:a.off.den+j<vs.length:=by omega
      have h1:=hf _ _ (List.getElem?_eq_getElem hlt)
      have h2:(f (a.off.den+j)).den β=some (.int .u8 (f (a.off.den+j)).num):=by
       rcases hint (a.off.den+j) (by omega) with h | h
       . rw [h]; rfl
       . exact h
      rw [h2] at h1
      rw [q8a,Nat.add_assoc]
      show _=some (Value.int .u8 (f (a.off.den+j)).num)
      rw [h1]
      exact hcell _ _ (List.getElem?_eq_getElem hlt)
    . simp [SStr.den,qkd]
 cases e with
 | own c wh el=>exact key c rfl
 | row c=>exact key c rfl
 | loop=>trivial
 | deferred=>trivial
 | gone=>trivial
 | obj=>trivial
theorem qa3 (hr:HeapRel0 P O w0 β H w) {v:SV} {x:Value} (hv:v.den β=some x) {res:Result Next} (hres:∀ s,(Conv.bytesToString x).run P w=.ok (.string s) w->res=.ok (.value (.string s)) w) :
  (qsw H v).Sat (qea P H β w base res):=by
 unfold qsw
 split
 . simp only [SV.den,Option.some.injEq] at hv
   subst hv
   exact qga (hres _ rfl) rfl
 . rename_i a len cap
   rw [den_slice] at hv
   obtain ⟨A,C,hA,hC,hLC,rfl⟩:=hv
   refine qgb fun e he=>q2r hr hA ?_ he
   intro ns s h1 h2 h3
   exact qga (hres _ (qjn h1 h2)) (by simp [SV.den,h3])
 . rename_i a n len cap
   rw [qdc] at hv
   obtain ⟨A,C,hA,hC,hLC,rfl⟩:=hv
   refine qgb fun e he=>q2r hr (SA.plus_den hA n) ?_ he
   intro ns s h1 h2 h3
   by_cases hC0:C=0
   . have hn0:ns=[]:=List.eq_nil_of_length_eq_zero (by omega)
     exact qga (hres _ (qjn h1 (by rw [hn0]; intro j x hx; simp at hx))) (by simp [SV.den,h3])
   . rw [if_neg hC0] at hres
     exact qga (hres _ (qjn h1 h2)) (by simp [SV.den,h3])
 . trivial
theorem qlp (w:World) (need old:Nat) (e:TypeId):need<=grownCap w need old e:=by
 unfold grownCap Question.cut
 exact Nat.le_add_right _ _
theorem bytes_den (β:Val) (l:List UInt8):SV.denL β (mapN (fun (b:UInt8)=>SV.int .u8 (.lit (b.toNat:Int))) l)=some (l.map fun b=>Value.int .u8 (b.toNat:Int)):=by
 rw [qja]
 induction l with
 | nil=>rfl
 | cons b l ih=>exact denL_cons.2 ⟨_,_,rfl,ih,rfl⟩
theorem qmp (β:Val) (s:ByteArray) (i:Nat) (x:Value) (h:(s.data.toList.map fun b=>Value.int .u8 (b.toNat:Int))[i]? = some x):(qpo s i).den β=some x:=by
 simp only [List.getElem?_map,Option.map_eq_some_iff] at h
 obtain ⟨b,hb,rfl⟩:=h
 have hb':s.data[i]? = some b:=by rw [← hb]; simp
 have:s.data.getD i 0=b:=by rw [Array.getD_eq_getD_getElem?,hb']; rfl
 simp only [qpo,SV.den,SI.den,this]; rfl
theorem qlx {elem:TypeId} {s:SStr} {res:Result Next}
  (hres:res=.ok (.value (.slice (some ⟨w.heap.size,0,none⟩) s.den.size (grownCap w s.den.size 0 elem)))
   (w.drew.alloc (.cells (bytesRow s.den (grownCap w s.den.size 0 elem)) elem ((bytesRow s.den (grownCap w s.den.size 0 elem)).size,(bytesRow s.den (grownCap w s.den.size 0 elem)).size+1)))) :
  (qtw P base elem s).Sat (qea P H β w base res):=by
 refine R.Sat.opt fun i hi=>R.Sat.boolC (fun h1 => ?_) fun _=>trivial
 have hsz:i.size=1:=Nat.eq_of_beq_eq_true h1
 have hcap:=qlp w s.den.size 0 elem
 have hfin:∀ (c:Cells) (n:SN),n.den=s.den.size->CellsRel β c (s.den.data.toList.map fun b=>Value.int .u8 (b.toNat:Int)) ->
   (R.ok (OpRes.val (.slice ⟨base,.lit 0⟩ n (.rest base 0)) [] [.own c false elem])).Sat (qea P H β w base res):=by
  intro c n hn hc
  refine fun hb=>⟨_,_,_,β.upd base ⟨w.heap.size,0,grownCap w s.den.size 0 elem⟩,hres,rfl,?_,?_,by simp⟩
  . rw [den_slice]
    exact ⟨⟨w.heap.size,0,none⟩,grownCap w s.den.size 0 elem,by simp [SA.den,Val.upd_same,SN.den],by simp [SC.den,Val.upd_same],by rw [hn]; exact hcap,by rw [hn]⟩
  . have hl:(s.den.data.toList.map fun (b:UInt8)=>Value.int .u8 (b.toNat:Int)).length=s.den.size:=by simp
    refine Eff.alloc (vs:=s.den.data.toList.map fun (b:UInt8)=>Value.int .u8 (b.toNat:Int)) (rest:=List.replicate (grownCap w s.den.size 0 elem - s.den.size) (Value.int .u8 0))
     (lo:=(bytesRow s.den (grownCap w s.den.size 0 elem)).size) (hi:=(bytesRow s.den (grownCap w s.den.size 0 elem)).size+1) hb.hd ?_ rfl rfl rfl hc ?_ (by simp) ?_
    . show w.heap.push _=_
      congr 2
      apply Array.ext'
      simp [bytesRow]
    . have:(bytesRow s.den (grownCap w s.den.size 0 elem)).size=(s.den.data.toList.map (fun (b:UInt8)=>Value.int .u8 (b.toNat:Int))++List.replicate (grownCap w s.den.size 0 elem - s.den.size) (Value.int .u8 0)).length:=by
       simp [bytesRow]
      exact .inr (Nat.le_of_eq this.symm)
    . intro i' hi'
      rw [hi] at hi'; cases hi'
      rw [hsz,List.length_append,hl,List.length_replicate]; omega
 cases s with
 | lit s=>exact hfin _ _ rfl (bytes_den β _)
 | sym s =>
   refine hfin _ _ rfl ⟨?_,fun i x hx=>qmp β s i x hx⟩
   simp [SStr.den]
 | bytes l =>
   intro hbnd
   have hsz:(SStr.bytes l).den.size=l.length:=by
    show (l.map fun i=>UInt8.ofNat i.den.toNat).toArray.size=_
    simp
   refine hfin _ _ (by rw [hsz]; exact qha l) ?_
   show SV.denL β (mapN (fun i=>SV.int .u8 i) l)=_
   rw [qja,qkn]
   simp only [SStr.den,bytesOf,List.map_map,Option.some.injEq]
   refine List.map_congr_left fun i hi => ?_
   have:=hbnd i hi
   simp only [Function.comp,UInt8.toNat_ofNat']
   rw [Nat.mod_eq_of_lt (by omega)]
   congr 1; omega
theorem q35 (hr:HeapRel0 P O w0 β H w) {src dt e e':TypeId} {a:SA} {l:SN} {c:SC} (hs:P.underlying src=some (.slice e')) (hd:P.underlying dt=some (.slice e)) {v:Value} (hv:(SV.slice a l c).den β=some v) {res:Result Next}
  (hres:∀ v' w',(convert src dt v).run P w=.ok v' w'->res=.ok (.value v') w'):(j7b P H src dt e a l c).Sat (qea P H β w base res):=by
 refine R.Sat.boolC (fun hsd=>R.Sat.opt fun d he => ?_) fun _=>trivial
 split
 . refine qgb fun e0 h0 => ?_
   cases e0 with
   | row=>trivial
   | loop=>trivial
   | deferred=>trivial
   | gone=>trivial
   | obj=>trivial
   | own cl wh el =>
     obtain ⟨ll,vs,rest,lo,hi,hbl,h0',hc,hh,hfz,hw,hcap⟩:=hr.entries _ _ h0
     have hv':=hv
     rw [den_slice] at hv
     obtain ⟨A,C,hA,hC,hLC,rfl⟩:=hv
     obtain ⟨l',hl',hAe⟩:=SA.den_some hA
     rw [hbl] at hl'; cases hl'
     have hAb:A.block=ll.blk:=by rw [hAe]
     have hlt:ll.blk<w.heap.size:=(Array.getElem?_eq_some_iff.1 hh).1
     have hus:=fun w=>qaa (P:=P) (w:=w) hs
     have hud:=fun w=>qaa (P:=P) (w:=w) hd
     have hue:=fun w=>qaa (P:=P) (w:=w) he
     obtain ⟨lo',hi',hm,hfz'⟩:∃ lo' hi',w.freeze ⟨ll.blk,(vs++rest).toArray.size,none⟩ 1={ w with heap:=w.heap.setIfInBounds ll.blk (.cells (vs++rest).toArray el (lo',hi')) }/\Unfz lo' hi' (vs++rest).length:=by
      refine ⟨if lo == hi then (vs++rest).toArray.size else min lo (vs++rest).toArray.size,if lo == hi then (vs++rest).toArray.size+1 else max hi ((vs++rest).toArray.size+1),?_,?_⟩
      . unfold World.freeze
        rw [if_neg (by decide)]
        congr 1
        apply Array.ext_getElem?
        intro j
        rw [Array.getElem?_modify,Array.getElem?_setIfInBounds]
        split
        . rename_i h; subst h
          rw [hh]
          show some (Obj.cells (vs++rest).toArray el (if lo == hi then _ else _))=_
          cases (lo == hi) <;> rfl
        . rfl
      . by_cases hlh:lo=hi
        . subst hlh; simp only [beq_self_eq_true,if_true]; exact .inr (by simp)
        . have:(lo == hi)=false:=by simpa using hlh
          rw [this]
          rcases hfz with h | h
          . exact absurd h hlh
          . exact .inr (by simp only [Bool.false_eq_true,if_false,List.size_toArray]; omega)
     have hsh:w.shape? ll.blk=some (el,(vs++rest).toArray.size):=by unfold World.shape?; rw [hh]
     have hrun:(convert src dt (.slice (some A) l.den C)).run P w=.ok (.slice (some A) l.den C) { w with heap:=w.heap.setIfInBounds ll.blk (.cells (vs++rest).toArray el (lo',hi')) }:=by
      rw [← hm]
      have hb:(src == dt)=true:=by rw [Nat.eq_of_beq_eq_true hsd]; exact beq_self_eq_true _
      simp only [convert,Sem.run_bind,hus,hud,Result.andThen_ok,hue,hb,markStringish,hAb,run_shape,hsh,run_freeze,Sem.run_pure]
     refine ⟨.value _,_,_,_,hres _ _ hrun,rfl,hv',h0,rfl,Eff.turn hbl ?_⟩
     exact ⟨ll,vs,rest,lo',hi',hbl,h0',hc,by simp [hlt],hfz',hw,hcap⟩
 . trivial
theorem q45 (hr:HeapRel0 P O w0 β H w) {src dt:TypeId} {x:Operand} (hx:(ev x).den β=some (ρ x)) :
  (jic src dt x P ev H base).Sat (qea P H β w base ((execOp ρ ⟨dst,.convert src dt x,t,pos,af,g⟩).run P w)):=by
 refine R.Sat.opt fun s hs=>R.Sat.opt fun d hd => ?_
 have hus:=qaa (w:=w) hs
 have hud:=qaa (w:=w) hd
 split
 . rename_i k' _ n h
   rw [h] at hx
   simp only [SV.den,Option.some.injEq] at hx
   exact qga (x:=.int k' (k'.wrap n.den)) (by simp [execOp,← hx,convert,hus,hud,Conv.intToInt]) (by simp [SV.den,qq5])
 . rename_i s h
   rw [h] at hx
   simp only [SV.den,Option.some.injEq] at hx
   exact qga (x:=.string s.den) (by simp [execOp,← hx,convert,hus,hud]) rfl
 . rename_i e s h
   rw [h] at hx
   simp only [SV.den,Option.some.injEq] at hx
   refine R.Sat.opt fun ed hed => ?_
   split
   . refine qlx ?_
     have:=run_bytes_of_string w src dt e s.den hs hd hed
     simp only [execOp,← hx,Sem.run_bind,this,Result.andThen_ok,Sem.run_pure]
   . trivial
 . rename_i e' e a l c h
   rw [h] at hx
   refine q35 hr hs hd hx fun v' w' h => ?_
   simp only [execOp,Sem.run_bind,h,Result.andThen_ok,Sem.run_pure]
 . rename_i e
   refine R.Sat.opt fun ed hed => ?_
   split
   . refine qa3 hr hx fun s hs' => ?_
     have hue:=qaa (w:=w) hed
     have hslice:(∃ a l c,ρ x=.slice a l c)\/¬ ∃ a l c,ρ x=.slice a l c:=Classical.em _
     rcases hslice with ⟨a,l,c,hρ⟩ | hno
     . simp only [execOp,hρ] at hs' ⊢
       simp only [convert,Sem.run_bind,hus,hud,Result.andThen_ok,hue,hs',Sem.run_pure]
     . exfalso
       cases hρ:ρ x <;> rw [hρ] at hs' hno <;> first | (exact hno ⟨_,_,_,rfl⟩) | (simp [Conv.bytesToString] at hs')
   . trivial
 . trivial
theorem qhh {v:SV} {x:Value} (hv:v.den β=some x) {f:SN->R α} {φ:α->Prop}
  (hf:∀ n:SN,(∀ (P:Program) (w':World),(Builtin.lenOf x).run P w'=.ok n.den w')->(f n).Sat φ):(lenS v f).Sat φ:=by
 unfold lenS
 split
 . simp only [SV.den,Option.some.injEq] at hv; subst hv; exact hf _ fun _ _=>rfl
 . rw [den_slice] at hv; obtain ⟨A,C,_,_,_,rfl⟩:=hv; exact hf _ fun _ _=>rfl
 . rw [qdc] at hv; obtain ⟨A,C,_,_,_,rfl⟩:=hv; exact hf _ fun _ _=>rfl
 . simp only [SV.den,Option.some.injEq] at hv; subst hv; exact hf _ fun _ _=>rfl
 . rename_i l
   simp only [SV.den,Option.some.injEq] at hv; subst hv
   refine hf _ fun P w' => ?_
   show Result.ok (SStr.bytes l).den.size w'=_
   congr 1
   show (l.map fun i=>UInt8.ofNat i.den.toNat).toArray.size=lenN l
   rw [qha]; simp
 . simp only [SV.den,Option.some.injEq] at hv; subst hv; exact hf _ fun _ _=>rfl
 . trivial
end
end
noncomputable section
variable {α:Type}
section
variable {P:Program} {O:Nat->Prop} {w0:World} {β:Val} {H:List SO} {w:World} {base:Nat}
variable {ev:Operand->SV} {ρ:Operand->Value} {dst:Option Tmp} {t:TypeId} {pos:String} {af:Array Edge} {g:Option (Nat × Bool)}
theorem qg9 {tys:Array TypeId} {v:SV} {x:Value} (hv:v.den β=some x) {xs:List Value} {ty:TypeId} {res:Result Next} (hres:∀ n:Nat,(Builtin.len_ tys ty (x::xs).toArray).run P w=.ok (goInt n) w->res=.ok (.value (goInt n)) w) :
  (lenT P tys v).Sat (qea P H β w base res):=by
 refine R.Sat.opt fun t ht=>R.Sat.opt fun d hd => ?_
 have hu:=qaa (w:=w) hd
 split
 . rename_i s
   simp only [SV.den,Option.some.injEq] at hv
   subst hv
   refine qhh (β:=β) (v:=.str s) rfl fun n hn=>qga (hres n.den ?_) (by simp [SV.den,qzo,goInt])
   have:s.den.size=n.den:=by
    have:=hn P w
    simp only [Builtin.lenOf,Sem.run_pure,Result.ok.injEq] at this
    exact this.1
   simp [Builtin.len_,ht,hu,this]
 . rename_i n e
   refine qga (hres n ?_) rfl
   simp [Builtin.len_,ht,hu]
 . rename_i e a n c
   rw [den_slice] at hv
   obtain ⟨A,C,hA,hC,_,rfl⟩:=hv
   exact qga (hres n.den (by simp [Builtin.len_,ht,hu])) (by simp [SV.den,qzo,goInt])
 . rename_i e a k n c
   rw [qdc] at hv
   obtain ⟨A,C,hA,hC,_,rfl⟩:=hv
   exact qga (hres n.den (by simp [Builtin.len_,ht,hu])) (by simp [SV.den,qzo,goInt])
 . rename_i e p n c
   simp only [SV.den,Option.some.injEq] at hv
   subst hv
   exact qga (hres n (by simp [Builtin.len_,ht,hu])) rfl
 . simp only [SV.den,Option.some.injEq] at hv
   subst hv
   exact qga (hres 0 (by simp [Builtin.len_,ht,hu])) rfl
 . simp only [SV.den,Option.some.injEq] at hv
   subst hv
   exact qga (hres 0 (by simp [Builtin.len_,ht,hu])) rfl
 . trivial
theorem qh9 {a b:SV} {x y:Value} (ha:a.den β=some x) (hb:b.den β=some y):(min2 a b).Sat fun v=>∃ z,v.den β=some z/\(Builtin.min2 x y).run P w=.ok z w:=by
 unfold min2
 split
 . simp only [SV.den,Option.some.injEq] at ha hb; subst ha; subst hb; exact ⟨_,rfl,rfl⟩
 . rename_i k a k' b _
   simp only [SV.den,Option.some.injEq] at ha hb; subst ha; subst hb
   have hr:(Builtin.min2 (.int k a.den) (.int k' b.den)).run P w=.ok (.int k (if b.den<a.den then b.den else a.den)) w:=rfl
   refine ⟨fun he=>⟨_,rfl,?_⟩,fun he=>⟨_,rfl,?_⟩⟩
   . rw [hr,if_pos (of_decide_eq_true he)]
   . rw [hr,if_neg (of_decide_eq_false he)]
 . trivial
theorem qi9 {a b:SV} {x y:Value} (ha:a.den β=some x) (hb:b.den β=some y):(max2 a b).Sat fun v=>∃ z,v.den β=some z/\(Builtin.max2 x y).run P w=.ok z w:=by
 unfold max2
 split
 . simp only [SV.den,Option.some.injEq] at ha hb; subst ha; subst hb; exact ⟨_,rfl,rfl⟩
 . rename_i k a k' b _
   simp only [SV.den,Option.some.injEq] at ha hb; subst ha; subst hb
   exact ⟨_,rfl,rfl⟩
 . trivial
theorem qki {ty elem:TypeId} {l c:Int} {i:TypeInfo} {z:Value} (hd:P.underlying ty=some (.slice elem)) (hi:P.info? elem=some i) (hz:i.zero=some z) (hzl:z.cells.size=i.size)
  (h0:0<=l) (h1:l<=c) (h2:c<=9223372036854775807) (h3:i.bytes * c<=2 ^ 48) :
  (Instr.makeSlice ty (.int .i64 l) (.int .i64 c)).run P w=.ok (.slice (some ⟨w.heap.size,0,none⟩) l.toNat c.toNat) { w with heap:=w.heap.push (.cells (List.replicate c.toNat z.cells.toList).flatten.toArray elem) }:=by
 have hwl:IntKind.i64.wrap l=l:=wrap_i64 ⟨by omega,by omega⟩
 have hwc:IntKind.i64.wrap c=c:=wrap_i64 ⟨by omega,by omega⟩
 have ht:(decide (c<0) || decide (i.bytes * c > 2 ^ 48))=false:=by simp; omega
 unfold Instr.makeSlice
 simp only [asInt,asIntOf,Sem.run_bind,qaa hd,Result.andThen_ok,Sem.run_pure,q9d hi,hwl,hwc]
 rw [if_neg (by rw [ht]; simp; omega)]
 simp only [Sem.run_bind,run_askRoom,Result.andThen_ok,q3a hi]
 by_cases hn:c.toNat * i.size=0
 . rw [if_pos hn]
   simp only [Sem.run_pure,Result.andThen_ok,newRow,Sem.run_bind,run_newObj]
   rw [hn]
   have:(List.replicate c.toNat z.cells.toList).flatten=[]:=List.eq_nil_of_length_eq_zero (by simp [hzl,hn])
   rw [this,show (Array.range 0).map (fun i=>(#[]:Array Value)[i % (#[]:Array Value).size]!) = #[] from Array.eq_empty_of_size_eq_zero (by simp)]
 . rw [if_neg hn]
   simp only [Sem.run_bind,qvc hi hz,Sem.run_pure,Result.andThen_ok,newRow,run_newObj]
   rw [q0k hzl hn]
theorem qmx (xs:List Value) (h:0<xs.length):∀ (n j:Nat) (x:Value),(List.replicate n xs).flatten[j]? = some x->x=atV xs (j % xs.length)
 | 0,j,x,hx=>by simp at hx
 | n+1,j,x,hx=>by
   rw [List.replicate_succ,List.flatten_cons,List.getElem?_append] at hx
   by_cases hj:j<xs.length
   . rw [if_pos hj] at hx
     rw [Nat.mod_eq_of_lt hj]
     unfold atV
     rw [hx]; rfl
   . rw [if_neg hj] at hx
     rw [qmx xs h n _ x hx]
     exact congrArg (atV xs) (Nat.mod_eq_sub_mod (by omega)).symm
theorem q55 {z:SV} {x:Value} (h:z.den β=some x) (j:Nat):(q7q z j).den β=some x:=by
 unfold q7q
 cases hz:unb1 z with
 | none=>exact h
 | some b=>rw [qkj hz h]; rfl
theorem qjt {ty:TypeId} {l c:Operand} (hl:(ev l).den β=some (ρ l)) (hc:(ev c).den β=some (ρ c)) :
  (qgr ty l c P ev H base).Sat (qea P H β w base ((execOp ρ ⟨dst,.makeSlice ty l c,t,pos,af,g⟩).run P w)):=by
 refine R.Sat.opt fun d hd => ?_
 split
 . rename_i elem
   refine R.Sat.opt fun i hi=>R.Sat.opt fun z hz => ?_
   obtain ⟨i',zv,hi',hzv,hden⟩:=qfe hz
   rw [hi] at hi'; cases hi'
   have hzl:lenN z=zv.cells.size:=by rw [qha]; have:=qva (hden β); simpa using this.symm
   split
   . rename_i ln cn h1 h2
     rw [h1] at hl; rw [h2] at hc
     simp only [SV.den,SI.den,Option.some.injEq] at hl hc
     split
     . rename_i hcond
       obtain ⟨h0,hle,hlt,hby⟩:=hcond
       split
       . trivial
       . rename_i hsz
         have hsz':zv.cells.size=i.size:=by rw [← hzl]; exact Classical.not_not.1 hsz
         have hrun:=qki (w:=w) hd hi hzv hsz' h0 hle (by omega) (by
          have h5:(i.bytes:Int) * cn<=65536 * 1048576:=Int.mul_le_mul (by omega) (by omega) (by omega) (by decide)
          exact Int.le_trans h5 (by decide))
         refine fun hb=>⟨.value _,_,_,β.upd base ⟨w.heap.size,0,0⟩,by simp only [execOp,← hl,← hc,Sem.run_bind,hrun,Result.andThen_ok,Sem.run_pure]; rfl,rfl,?_,?_,by simp⟩
         . rw [den_slice]
           exact ⟨⟨w.heap.size,0,none⟩,cn.toNat,by simp [SA.den,Val.upd_same,SN.den],rfl,by simp only [SN.den]; omega,rfl⟩
         . exact Eff.alloc (vs:=(List.replicate cn.toNat zv.cells.toList).flatten) (rest:=[]) (lo:=0) (hi:=0) hb.hd (by simp) rfl rfl rfl (qku (hden β) _) (by simp) (by simp) (by simp)
     . trivial
   . rename_i ln cn _ h1 h2
     rw [h1] at hl; rw [h2] at hc
     simp only [SV.den,Option.some.injEq] at hl hc
     split
     . rename_i z1
       rintro ⟨h0,hle,hby,hmax,hsz⟩
       obtain ⟨zx,zs,hzx,hzs,hzcells⟩:=denL_cons.1 (hden β)
       rw [denL_nil] at hzs; subst hzs
       have hsz':zv.cells.size=i.size:=by
        have:=congrArg List.length hzcells
        simp at this; omega
       have hrun:=qki (w:=w) hd hi hzv hsz' h0 hle (by omega) (by rw [Int.mul_comm]; exact hby)
       refine fun hb=>⟨.value _,_,_,β.upd base ⟨w.heap.size,0,0⟩,by simp only [execOp,← hl,← hc,Sem.run_bind,hrun,Result.andThen_ok,Sem.run_pure]; rfl,rfl,?_,?_,by simp⟩
       . rw [den_slice]
         exact ⟨⟨w.heap.size,0,none⟩,cn.den.toNat,by simp [SA.den,Val.upd_same,SN.den],rfl,by rw [q5i]; omega,by rw [q5i]⟩
       . have hfl:(List.replicate cn.den.toNat [zx]).flatten=List.replicate cn.den.toNat zx:=by
          generalize cn.den.toNat=m
          induction m with
          | zero=>rfl
          | succ m ih=>rw [List.replicate_succ,List.flatten_cons,ih]; rfl
         refine Eff.alloc (vs:=List.replicate cn.den.toNat zx) (rest:=[]) (lo:=0) (hi:=0) hb.hd (by simp [hzcells,hfl]) rfl rfl rfl ⟨by simp,fun j x hx => ?_⟩ (by simp) (by simp) (by simp)
         have:x=zx:=by
          have:=List.eq_of_mem_replicate (List.mem_of_getElem? hx)
          exact this
         rw [this]; exact q55 hzx j
     . refine R.Sat.opt fun xs hxs => ?_
       rintro ⟨h0,hle,hby,hmax,hsz,hpos⟩
       have hxe:zv.cells.toList=xs:=q8h hxs (hden β)
       have hxl:zv.cells.size=lenN xs:=by rw [qha,← hxe]; simp
       have hrun:=qki (w:=w) hd hi hzv (by omega) h0 hle (by omega) (by rw [Int.mul_comm]; exact hby)
       rw [hxe] at hrun
       refine fun hb=>⟨.value _,_,_,β.upd base ⟨w.heap.size,0,0⟩,by simp only [execOp,← hl,← hc,Sem.run_bind,hrun,Result.andThen_ok,Sem.run_pure]; rfl,rfl,?_,?_,by simp⟩
       . rw [den_slice]
         exact ⟨⟨w.heap.size,0,none⟩,cn.den.toNat,by simp [SA.den,Val.upd_same,SN.den],rfl,by rw [q5i]; omega,by rw [q5i]⟩
       . refine Eff.alloc (vs:=(List.replicate cn.den.toNat xs).flatten) (rest:=[]) (lo:=0) (hi:=0) hb.hd (by simp) rfl rfl rfl ⟨by simp [qha],fun j x hx => ?_⟩ (by simp) (by simp) (by simp)
         rw [qha] at hsz
         rw [qha]
         exact qmx xs (by omega) cn.den.toNat j x hx
   . trivial
 . trivial
theorem qoa {x:Value} {size n:Nat} {xs:List Value} (w':World) (hh:w'.heap=w.heap)
  (h:(∃ c,x=.slice none 0 c/\xs=[])\/(∃ A l c,x=.slice (some A) l c/\xs.length=n * size/\∀ (j:Nat) (y:Value),xs[j]? = some y->w.cell? (A.add j)=some y)\/(∃ s,x=.string s/\xs=(s.data.toList.take n).map fun b=>Value.int .u8 (b.toNat:Int))) :
  (Builtin.firstCells size n x).run P w'=.ok xs.toArray w':=by
 rcases h with ⟨c,rfl,rfl⟩ | ⟨A,l,c,rfl,h1,h2⟩ | ⟨s,rfl,rfl⟩
 . rfl
 . have hc:∀ a,w'.cell? a=w.cell? a:=fun a=>by simp [World.cell?,hh]
   exact q9f h1 fun j y hy=>by rw [hc]; exact h2 j y hy
 . simp only [Builtin.firstCells,Sem.run_pure,Result.ok.injEq,and_true]
   apply Array.ext'
   simp [ByteArray.data_extract,List.extract_eq_take_drop]
theorem qb3 (need:Nat) (hn:256<=need):∀ (r c:Nat),c<=2 * need->Builtin.growBy need r c<=2 * need:=by
 intro r
 induction r with
 | zero=>intro c h; exact h
 | succ r ih =>
   intro c h
   unfold Builtin.growBy
   split
   . exact h
   . exact ih _ (by omega)
theorem qnp {need cap:Nat} (h:cap<need):Builtin.nextslicecap need cap<=2 * need:=by
 unfold Builtin.nextslicecap
 split
 . omega
 . split
   . omega
   . exact qb3 need (by omega) 4 cap (by omega)
theorem qop {P:Program} {tys:Array TypeId} (h:qyf P tys=true):tys[1]? = none\/∃ xt,tys[1]? = some xt/\((∃ e,P.underlying xt=some (.slice e))\/P.underlying xt=some .string):=by
 unfold qyf at h
 split at h
 . rename_i xt hxt
   split at h
   . rename_i e he; exact .inr ⟨xt,hxt,.inl ⟨e,he⟩⟩
   . rename_i he; exact .inr ⟨xt,hxt,.inr he⟩
   . cases h
 . rename_i h1; exact .inl h1
theorem qcb {tys:Array TypeId} {st elem ty:TypeId} {i:TypeInfo} {bs:Option Addr} {sLen sCap n:Nat} {x:Value} {xs:List Value} (ht:tys[0]? = some st) (hd:P.underlying st=some (.slice elem)) (hi:P.info? elem=some i)
  (hm:qyf P tys=true) (hn:(Builtin.lenOf x).run P w=.ok n w) (hx:(Builtin.firstCells i.size n x).run P w=.ok xs.toArray w) (hle:sLen+n<=sCap) {w':World}
  (hst:(match bs with | some a=>storeCells (a.add (sLen * i.size)) xs | none=>pure ():Sem Unit).run P w=.ok () w') :
  (Builtin.append_ tys ty #[.slice bs sLen sCap,x]).run P w=.ok (.slice bs (sLen+n) sCap) w':=by
 have hu:=fun w=>qaa (P:=P) (w:=w) hd
 have hs:=fun w=>q3a (P:=P) (w:=w) hi
 have key:∀ h1:(match tys[1]? with
   | some xType=>do pure ((← underlying xType) matches .int _)
   | none=>pure false:Sem Bool).run P w=.ok false w,True:=fun _=>trivial
 rcases qop hm with h1 | ⟨xt,h1,⟨e,h2⟩ | h2⟩
 . cases bs with
   | none=>simp at hst; subst hst; simp [Builtin.append_,ht,h1,hu,hs,hn,hle,hx]
   | some a=>simp at hst; simp [Builtin.append_,ht,h1,hu,hs,hn,hle,hx,hst]
 . have hu2:=fun w=>qaa (P:=P) (w:=w) h2
   cases bs with
   | none=>simp at hst; subst hst; simp [Builtin.append_,ht,h1,hu,hu2,hs,hn,hle,hx]
   | some a=>simp at hst; simp [Builtin.append_,ht,h1,hu,hu2,hs,hn,hle,hx,hst]
 . have hu2:=fun w=>qaa (P:=P) (w:=w) h2
   cases bs with
   | none=>simp at hst; subst hst; simp [Builtin.append_,ht,h1,hu,hu2,hs,hn,hle,hx]
   | some a=>simp at hst; simp [Builtin.append_,ht,h1,hu,hu2,hs,hn,hle,hx,hst]
theorem qjb {tys:Array TypeId} {st elem ty:TypeId} {i:TypeInfo} {z:Value} {bs:Option Addr} {sLen sCap n:Nat} {x:Value} {xs os:List Value} (ht:tys[0]? = some st) (hd:P.underlying st=some (.slice elem)) (hi:P.info? elem=some i)
  (hz:i.zero=some z) (hm:qyf P tys=true) (hn:(Builtin.lenOf x).run P w=.ok n w) (hx:∀ w':World,w'.heap=w.heap->(Builtin.firstCells i.size n x).run P w'=.ok xs.toArray w')
  (ho:∀ w':World,w'.heap=w.heap->(Builtin.firstCells i.size sLen (.slice bs sLen sCap)).run P w'=.ok os.toArray w') (hgt:sCap<sLen+n) (hb:(sLen+n) * i.bytes<140737488355328) (hb2:sLen+n<140737488355328) :
  ∃ cap,sLen+n<=cap/\(Builtin.append_ tys ty #[.slice bs sLen sCap,x]).run P w=.ok (.slice (some ⟨w.heap.size,0,none⟩) (sLen+n) cap)
    (w.drew.alloc (.cells (os.toArray++xs.toArray++Builtin.zeroCells z.cells (cap - (sLen+n))) elem)):=by
 refine ⟨grownCap w (sLen+n) sCap elem,qlp _ _ _ _,?_⟩
 have hsmall:¬ (281474976710656<Builtin.nextslicecap (sLen+n) sCap * i.bytes):=by
  have h2:=Nat.mul_le_mul_right i.bytes (qnp hgt)
  rw [Nat.mul_assoc] at h2
  omega
 have h63':¬ (9223372036854775807<((sLen:Int)+(n:Int))):=by omega
 have hng:¬ (sLen+n<=sCap):=by omega
 have hu:=fun w=>qaa (P:=P) (w:=w) hd
 have hs:=fun w=>q3a (P:=P) (w:=w) hi
 have hti:=fun w=>q9d (P:=P) (w:=w) hi
 have hzv:=fun w=>qvc (P:=P) (w:=w) hi hz
 have hx':=hx w.drew rfl
 have ho':=ho w.drew rfl
 have fin:∀ c:Array Value,w.drew.alloc (.cells (os.toArray++(xs.toArray++c)) elem)=w.drew.alloc (.cells ((os++xs).toArray++c) elem):=fun c=>by
  congr 2; apply Array.ext'; simp
 rcases qop hm with h1 | ⟨xt,h1,⟨e,h2⟩ | h2⟩
 . simp [Builtin.append_,ht,h1,hu,hs,hn,hng,hsmall,h63',hti,hzv,Question.forced,hx',ho',newRow,grownCap]
   exact fin _
 . have hu2:=fun w=>qaa (P:=P) (w:=w) h2
   simp [Builtin.append_,ht,h1,hu,hu2,hs,hn,hng,hsmall,h63',hti,hzv,Question.forced,hx',ho',newRow,grownCap]
   exact fin _
 . have hu2:=fun w=>qaa (P:=P) (w:=w) h2
   simp [Builtin.append_,ht,h1,hu,hu2,hs,hn,hng,hsmall,h63',hti,hzv,Question.forced,hx',ho',newRow,grownCap]
   exact fin _
theorem qnx (z:Array Value) (n:Nat):∃ l:List Value,Builtin.zeroCells z n=l.toArray/\l.length=n * z.size :=
 ⟨(Builtin.zeroCells z n).toList,by simp,by simp [Builtin.zeroCells]⟩
theorem q1g {elem:TypeId} {i:TypeInfo} {z:Value} {cap len:Nat} {c:Cells} {vs:List Value} {n:SN} (hi:P.info? elem=some i) (hz:z.cells.size=i.size) (hc:CellsRel β c vs) (hl:vs.length=len * i.size) (hle:len<=cap) (hn:n.den=len) {res:Result Next}
  (hres:res=.ok (.value (.slice (some ⟨w.heap.size,0,none⟩) len cap)) (w.drew.alloc (.cells (vs.toArray++Builtin.zeroCells z.cells (cap - len)) elem))) :
  (R.ok (OpRes.val (.slice ⟨base,.lit 0⟩ n (.rest base 0)) [] [.own c false elem])).Sat (qea P H β w base res):=by
 obtain ⟨zs,hzs,hzl⟩:=qnx z.cells (cap - len)
 refine fun hb=>⟨.value _,_,_,β.upd base ⟨w.heap.size,0,cap⟩,hres,rfl,?_,?_,by simp⟩
 . rw [den_slice]
   exact ⟨⟨w.heap.size,0,none⟩,cap,by simp [SA.den,Val.upd_same,SN.den],by simp [SC.den,Val.upd_same],by rw [hn]; exact hle,by rw [hn]⟩
 . refine Eff.alloc (vs:=vs) (rest:=zs) (lo:=0) (hi:=0) hb.hd (by show w.heap.push _=_; rw [hzs]; simp) rfl rfl rfl hc (by simp) (by simp) ?_
   intro i' hi'
   rw [hi] at hi'; cases hi'
   rw [List.length_append,hl,hzl,hz,← Nat.add_mul]
   exact Nat.le_of_eq (by rw [Nat.add_sub_cancel' hle])
theorem qik {elem:TypeId} {i:TypeInfo} {z:Value} {cap len m:Nat} {c:Cells} {vs:List Value} {n:SN} {e0:SO} (hm:H[m]? = some e0) (hm0:e0.owned=true) (hi:P.info? elem=some i) (hz:z.cells.size=i.size) (hc:CellsRel β c vs) (hl:vs.length=len * i.size) (hle:len<=cap) (hn:n.den=len) {res:Result Next}
  (hres:res=.ok (.value (.slice (some ⟨w.heap.size,0,none⟩) len cap)) (w.drew.alloc (.cells (vs.toArray++Builtin.zeroCells z.cells (cap - len)) elem))) :
  (R.ok (OpRes.val (.slice ⟨base,.lit 0⟩ n (.rest base 0)) [(m,.gone)] [.own c false elem])).Sat (qea P H β w base res):=by
 refine fun hb => ?_
 obtain ⟨nx,v',w',β',h1,h2,h3,hE,_⟩:=q1g (H:=H) hi hz hc hl hle hn hres hb
 refine ⟨nx,v',w',β',h1,h2,h3,?_,fun k e hk => ?_⟩
 . exact ⟨hE.le,hE.os,hE.tape,hE.output,hE.drawn,hE.size,hE.dom,fun b hb' _=>hE.frame b hb' (by simp),fun k a b ha hb'=>by simp at ha hb'; rw [ha.2,hb'.2],
    fun k a ha=>by simp at ha; rw [ha.2]; trivial,fun j e he=>by
     obtain ⟨a,b,l,hl,hor⟩:=hE.made j e he
     exact ⟨a,b,l,hl,.inl (hor.resolve_right (by simp))⟩,hE.apart⟩
 . simp at hk; obtain ⟨rfl,rfl⟩:=hk; exact ⟨e0,hm,hm0⟩
theorem qae {β:Val} {l r:List SV} {xs ys:List Value} (h:SV.denL β l=some xs) (k:SV.denL β r=some ys):SV.denL β (app l r)=some (xs++ys):=by
 rw [q1a]; exact qyd h k
end
end
end Go.Sim
