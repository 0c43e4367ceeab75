/-
  The hash function: Sum, its loop.
-/
import Derived.Test.YthkgcljngalafaaDoorZsSha1
namespace Go.Proofs.YthkgcljngalafaaDoor.Aes
noncomputable section
open Go.Sim
open Go.Proofs
variable {α:Type}
def sums2:List (FuncId × Summ):=[(54,addS)]
def cfgH2:Cfg:=cfgG qxi (qkc sums2)
theorem qk1:CfgOK cfgH2:=qie (allS addOK (by simp))
def qg4 (nm o n m:Nat):SV:=.tail ⟨nm,.sym o⟩ (.lit 0) (.sym n) (.sym m)
def qbp (o n m:Nat):List SV:=[qg4 4 o n m]
def q3t (X:Nat->BitVec 8) (N:Nat):List SO:=qjw [rowF X N]
def qh4 (X:Nat->BitVec 8) (N o n m:Nat):SS:=qpd (qfa (cfgH2.at (some (2,3))) 4000 44 (qbp o n m) (q3t X N)) []
structure SumA where
 p:Nat
 s:SN
 len:Nat
 cap:Nat
 ws:List W32
def entN (H:List SO) (i:Nat):HP:=optC (nth H i) (.ent .gone) fun e=>.ent e
def sumC (X:Nat->BitVec 8) (N o n m:Nat) (A:SumA):Cut :=
 ⟨qqd (qh4 X N o n m).frames [[(0,.func (.yield 10) [] []),(1,.ptr ⟨7,.lit 0⟩),(2,.ptr ⟨8,.lit 0⟩),(4,.tail ⟨4,.sym A.p⟩ A.s (.sym A.len) (.sym A.cap))],[(2,.ptr ⟨5,.lit 0⟩),(3,.ptr ⟨6,.lit 0⟩)]],
  [.ent qah,.ent qbh,.ent anyR,.ent anyR,.ent (rowF X N),entN (qh4 X N o n m).heap 5,.ent (.own (.lst (wx (qwb A.ws))) true 97),.ent .gone,.ent (.own (.lst [.int .i64 (.sym n)]) true 3),.ent (.deferred (some [])),jwc (nth (qh4 X N o n m).heap 10) [(3,.ptr ⟨6,.lit 0⟩)]]⟩
def qvm:List Nat:=qra 11 0
def cTurn (X:Nat->BitVec 8) (N:Nat) (A:SumA):List Prop:=[decide ((A.len:Int)>=64)=true,0<A.len,64<=A.cap,IsB (qna X),A.p+A.s.den+0+64<=N,0<A.len,64<=A.len]
def endL (size:Nat) (Y:Nat->BitVec 8) (len n:Nat):List (BitVec 8) :=
 qth (putB (0+(len:Int).toNat * 1) 1 (fun _=>BitVec.ofNat 8 128) (putB 0 len Y (repN (BitVec.ofNat 8 0) size) 0) 0) (Nat.sub size 8)
  (mapN (fun j=>((BitVec.ofInt 64 (n:Int) * BitVec.ofInt 64 8) >>> (8 * (7 - j))).setWidth 8) (qra 8 0))
def byte4 (x:W32):List (BitVec 8):=[(x >>> 24).setWidth 8,(x >>> 16).setWidth 8,(x >>> 8).setWidth 8,x.setWidth 8]
def qyi (l:List W32):List (BitVec 8):=List.rec (motive:=fun _=>List (BitVec 8)) [] (fun x _ ih=>app (byte4 x) ih) (qwb l)
def cEnd (X:Nat->BitVec 8) (N:Nat) (A:SumA) (big:Bool) (size:Nat) (r:List Prop):List Prop :=
 (decide ((A.len:Int)>=64)=false)::qpa ((A.len:Int)+9)::(decide ((A.len:Int)+9 > 64)=big)::(A.p+A.s.den+A.len<=N/\IsB (qna X))::(A.len<=size)::(0+A.len<=size)::(0<=(A.len:Int)/\(A.len:Int)<(size:Int))::(0+(A.len:Int).toNat * 1+1<=size)::r
def qwm (X:Nat->BitVec 8) (A:SumA):Nat->BitVec 8:=fun i=>X (A.p+A.s.den+i)
def end1 (X:Nat->BitVec 8) (n:Nat) (A:SumA):List W32:=cmpW (qwb A.ws) (qfb (q4a (endL 64 (qwm X A) A.len n)) 0)
def end2 (X:Nat->BitVec 8) (n:Nat) (A:SumA):List W32:=cmpW (qwb (cmpW (qwb A.ws) (qfb (q4a (endL 128 (qwm X A) A.len n)) 0))) (qfb (q4a (endL 128 (qwm X A) A.len n)) 64)
section
variable (X:Nat->BitVec 8) (N o n m:Nat) (A:SumA) (J:Junk) (z:Nat->Nat->Nat)
theorem jva:outL [] (sumC X N o n m ⟨o,.lit 0,n,m,qsc⟩) qvm (qfa (cfgH2.at (some (2,3))) 4000 44 (qbp o n m) (q3t X N)) [] z =
  ([],some (.inr (qpf 6 (.ent (.own (.lst (kx .u32 startL)) true 97)) (qqa qvm 11 (sumC X N o n m ⟨o,.lit 0,n,m,qsc⟩))))):=by kernel_rfl
theorem jwa:outL [] (sumC X N o n m A) qvm (sim1 (cfgH2.at (some (2,3))) 4000 ((sumC X N o n m A).fill J)) [true] z =
  (cTurn X N A,some (.inr (qqa qvm 11 (sumC X N o n m ⟨A.p+A.s.den,.lit 64,A.len - 64,A.cap - 64,cmpW (qwb A.ws) (qfb X (A.p+A.s.den+0))⟩)))):=by kernel_rfl
theorem qfv (B:SumA):boolC (q5a 5 qvm (sumC X N o n m A) (sumC X N o n m B)) (allN qwa (sumC X N o n m B).heap) false=true:=by kernel_rfl
theorem jxa:outL [] (sumC X N o n m A) qvm (sim1 (cfgH2.at none) 8000 ((sumC X N o n m A).fill J)) [false,false] z =
  (cEnd X N A false 64 [0+64<=64],some (.inl (.agg (bx (qyi (end1 X n A))),[]))):=by kernel_rfl
theorem jya:outL [] (sumC X N o n m A) qvm (sim1 (cfgH2.at none) 8000 ((sumC X N o n m A).fill J)) [false,true] z =
  (cEnd X N A true 128 [0+64<=128,64+64<=128],some (.inl (.agg (bx (qyi (end2 X n A))),[]))):=by kernel_rfl
end
end
end Go.Proofs.YthkgcljngalafaaDoor.Aes
