/-
  The hash function: Sum, its loop.
-/
import Derived.Test.YthkgcljngalafaaDoorZqSha1
namespace Go.Proofs.YthkgcljngalafaaDoor.Aes
noncomputable section
open Go.Sim
open Go.Proofs
variable {α:Type}
def sums2:List (FuncId × Summ):=[(54,addS)]
def cfgH2:Cfg:=cfgG qoj (qdc sums2)
theorem qr3:CfgOK cfgH2:=qzd (allS addOK (by simp))
def qq6 (nm o n m:Nat):SV:=.tail ⟨nm,.sym o⟩ (.lit 0) (.sym n) (.sym m)
def q9p (o n m:Nat):List SV:=[qq6 4 o n m]
def qpv (X:Nat->BitVec 8) (N:Nat):List SO:=qey [rowF X N]
def qr6 (X:Nat->BitVec 8) (N o n m:Nat):SS:=q8c (qea (cfgH2.at (some (2,3))) 4000 44 (q9p o n m) (qpv X N)) []
structure SumA where
 p:Nat
 s:SN
 len:Nat
 cap:Nat
 ws:List W32
def entN (H:List SO) (i:Nat):HP:=optC (nth H i) (.ent .gone) fun e=>.ent e
def sumC (X:Nat->BitVec 8) (N o n m:Nat) (A:SumA):Cut :=
 ⟨qod (qr6 X N o n m).frames [[(0,.func (.yield 10) [] []),(1,.ptr ⟨7,.lit 0⟩),(2,.ptr ⟨8,.lit 0⟩),(4,.tail ⟨4,.sym A.p⟩ A.s (.sym A.len) (.sym A.cap))],[(2,.ptr ⟨5,.lit 0⟩),(3,.ptr ⟨6,.lit 0⟩)]],
  [.ent qvh,.ent qwh,.ent anyR,.ent anyR,.ent (rowF X N),entN (qr6 X N o n m).heap 5,.ent (.own (.lst (wx (q1b A.ws))) true 97),.ent .gone,.ent (.own (.lst [.int .i64 (.sym n)]) true 3),.ent (.deferred (some [])),q8x (nth (qr6 X N o n m).heap 10) [(3,.ptr ⟨6,.lit 0⟩)]]⟩
def qrn:List Nat:=qka 11 0
def cTurn (X:Nat->BitVec 8) (N:Nat) (A:SumA):List Prop:=[decide ((A.len:Int)>=64)=true,0<A.len,64<=A.cap,IsB (q1a X),A.p+A.s.den+0+64<=N,0<A.len,64<=A.len]
def endL (size:Nat) (Y:Nat->BitVec 8) (len n:Nat):List (BitVec 8) :=
 qfi (putB (0+(len:Int).toNat * 1) 1 (fun _=>BitVec.ofNat 8 128) (putB 0 len Y (repN (BitVec.ofNat 8 0) size) 0) 0) (Nat.sub size 8)
  (mapN (fun j=>((BitVec.ofInt 64 (n:Int) * BitVec.ofInt 64 8) >>> (8 * (7 - j))).setWidth 8) (qka 8 0))
def byte4 (x:W32):List (BitVec 8):=[(x >>> 24).setWidth 8,(x >>> 16).setWidth 8,(x >>> 8).setWidth 8,x.setWidth 8]
def qpj (l:List W32):List (BitVec 8):=List.rec (motive:=fun _=>List (BitVec 8)) [] (fun x _ ih=>app (byte4 x) ih) (q1b l)
def cEnd (X:Nat->BitVec 8) (N:Nat) (A:SumA) (big:Bool) (size:Nat) (r:List Prop):List Prop :=
 (decide ((A.len:Int)>=64)=false)::qqa ((A.len:Int)+9)::(decide ((A.len:Int)+9 > 64)=big)::(A.p+A.s.den+A.len<=N/\IsB (q1a X))::(A.len<=size)::(0+A.len<=size)::(0<=(A.len:Int)/\(A.len:Int)<(size:Int))::(0+(A.len:Int).toNat * 1+1<=size)::r
def qsn (X:Nat->BitVec 8) (A:SumA):Nat->BitVec 8:=fun i=>X (A.p+A.s.den+i)
def end1 (X:Nat->BitVec 8) (n:Nat) (A:SumA):List W32:=cmpW (q1b A.ws) (qjb (q3a (endL 64 (qsn X A) A.len n)) 0)
def end2 (X:Nat->BitVec 8) (n:Nat) (A:SumA):List W32:=cmpW (q1b (cmpW (q1b A.ws) (qjb (q3a (endL 128 (qsn X A) A.len n)) 0))) (qjb (q3a (endL 128 (qsn X A) A.len n)) 64)
section
variable (X:Nat->BitVec 8) (N o n m:Nat) (A:SumA) (J:Junk) (z:Nat->Nat->Nat)
theorem j1c:outL [] (sumC X N o n m ⟨o,.lit 0,n,m,q3c⟩) qrn (qea (cfgH2.at (some (2,3))) 4000 44 (q9p o n m) (qpv X N)) [] z =
  ([],some (.inr (q9f 6 (.ent (.own (.lst (kx .u32 startL)) true 97)) (qra qrn 11 (sumC X N o n m ⟨o,.lit 0,n,m,q3c⟩))))):=by kernel_rfl
theorem j2c:outL [] (sumC X N o n m A) qrn (sim1 (cfgH2.at (some (2,3))) 4000 ((sumC X N o n m A).fill J)) [true] z =
  (cTurn X N A,some (.inr (qra qrn 11 (sumC X N o n m ⟨A.p+A.s.den,.lit 64,A.len - 64,A.cap - 64,cmpW (q1b A.ws) (qjb X (A.p+A.s.den+0))⟩)))):=by kernel_rfl
theorem q3w (B:SumA):boolC (qza 5 qrn (sumC X N o n m A) (sumC X N o n m B)) (allN qxa (sumC X N o n m B).heap) false=true:=by kernel_rfl
theorem j3c:outL [] (sumC X N o n m A) qrn (sim1 (cfgH2.at none) 8000 ((sumC X N o n m A).fill J)) [false,false] z =
  (cEnd X N A false 64 [0+64<=64],some (.inl (.agg (bx (qpj (end1 X n A))),[]))):=by kernel_rfl
theorem j4c:outL [] (sumC X N o n m A) qrn (sim1 (cfgH2.at none) 8000 ((sumC X N o n m A).fill J)) [false,true] z =
  (cEnd X N A true 128 [0+64<=128,64+64<=128],some (.inl (.agg (bx (qpj (end2 X n A))),[]))):=by kernel_rfl
end
end
end Go.Proofs.YthkgcljngalafaaDoor.Aes
