/-
  The hash function: Sum, its loop.
-/
import Derived.Test.YthkgcljngalafaaDoorZrSha1
namespace Go.Proofs.YthkgcljngalafaaDoor.Aes
noncomputable section
open Go.Sim
open Go.Proofs
variable {α:Type}
def sums2:List (FuncId × Summ):=[(54,addS)]
def cfgH2:Cfg:=cfgG qyi (qjc sums2)
theorem qk1:CfgOK cfgH2:=qrd (allS addOK (by simp))
def qe4 (nm o n m:Nat):SV:=.tail ⟨nm,.sym o⟩ (.lit 0) (.sym n) (.sym m)
def qfp (o n m:Nat):List SV:=[qe4 4 o n m]
def qbu (X:Nat->BitVec 8) (N:Nat):List SO:=quw [rowF X N]
def qf4 (X:Nat->BitVec 8) (N o n m:Nat):SS:=qmd (qka (cfgH2.at (some (2,3))) 4000 44 (qfp o n m) (qbu X N)) []
structure SumA where
 p:Nat
 s:SN
 len:Nat
 cap:Nat
 ws:List W32
def entN (H:List SO) (i:Nat):HP:=optC (nth H i) (.ent .gone) fun e=>.ent e
def sumC (X:Nat->BitVec 8) (N o n m:Nat) (A:SumA):Cut :=
 ⟨qke (qf4 X N o n m).frames [[(0,.func (.yield 10) [] []),(1,.ptr ⟨7,.lit 0⟩),(2,.ptr ⟨8,.lit 0⟩),(4,.tail ⟨4,.sym A.p⟩ A.s (.sym A.len) (.sym A.cap))],[(2,.ptr ⟨5,.lit 0⟩),(3,.ptr ⟨6,.lit 0⟩)]],
  [.ent q3g,.ent q4g,.ent anyR,.ent anyR,.ent (rowF X N),entN (qf4 X N o n m).heap 5,.ent (.own (.lst (wx (qvb A.ws))) true 97),.ent .gone,.ent (.own (.lst [.int .i64 (.sym n)]) true 3),.ent (.deferred (some [])),jjc (nth (qf4 X N o n m).heap 10) [(3,.ptr ⟨6,.lit 0⟩)]]⟩
def qwm:List Nat:=qba 11 0
def cTurn (X:Nat->BitVec 8) (N:Nat) (A:SumA):List Prop:=[decide ((A.len:Int)>=64)=true,0<A.len,64<=A.cap,IsB (qab X),A.p+A.s.den+0+64<=N,0<A.len,64<=A.len]
def endL (size:Nat) (Y:Nat->BitVec 8) (len n:Nat):List (BitVec 8) :=
 qmh (putB (0+(len:Int).toNat * 1) 1 (fun _=>BitVec.ofNat 8 128) (putB 0 len Y (repN (BitVec.ofNat 8 0) size) 0) 0) (Nat.sub size 8)
  (mapN (fun j=>((BitVec.ofInt 64 (n:Int) * BitVec.ofInt 64 8) >>> (8 * (7 - j))).setWidth 8) (qba 8 0))
def byte4 (x:W32):List (BitVec 8):=[(x >>> 24).setWidth 8,(x >>> 16).setWidth 8,(x >>> 8).setWidth 8,x.setWidth 8]
def qzi (l:List W32):List (BitVec 8):=List.rec (motive:=fun _=>List (BitVec 8)) [] (fun x _ ih=>app (byte4 x) ih) (qvb l)
def cEnd (X:Nat->BitVec 8) (N:Nat) (A:SumA) (big:Bool) (size:Nat) (r:List Prop):List Prop :=
 (decide ((A.len:Int)>=64)=false)::qsa ((A.len:Int)+9)::(decide ((A.len:Int)+9 > 64)=big)::(A.p+A.s.den+A.len<=N/\IsB (qab X))::(A.len<=size)::(0+A.len<=size)::(0<=(A.len:Int)/\(A.len:Int)<(size:Int))::(0+(A.len:Int).toNat * 1+1<=size)::r
def qxm (X:Nat->BitVec 8) (A:SumA):Nat->BitVec 8:=fun i=>X (A.p+A.s.den+i)
def end1 (X:Nat->BitVec 8) (n:Nat) (A:SumA):List W32:=cmpW (qvb A.ws) (qeb (qya (endL 64 (qxm X A) A.len n)) 0)
def end2 (X:Nat->BitVec 8) (n:Nat) (A:SumA):List W32:=cmpW (qvb (cmpW (qvb A.ws) (qeb (qya (endL 128 (qxm X A) A.len n)) 0))) (qeb (qya (endL 128 (qxm X A) A.len n)) 64)
section
variable (X:Nat->BitVec 8) (N o n m:Nat) (A:SumA) (J:Junk) (z:Nat->Nat->Nat)
theorem jba:outL [] (sumC X N o n m ⟨o,.lit 0,n,m,qoc⟩) qwm (qka (cfgH2.at (some (2,3))) 4000 44 (qfp o n m) (qbu X N)) [] z =
  ([],some (.inr (qlf 6 (.ent (.own (.lst (kx .u32 startL)) true 97)) (q2a qwm 11 (sumC X N o n m ⟨o,.lit 0,n,m,qoc⟩))))):=by kernel_rfl
theorem jca:outL [] (sumC X N o n m A) qwm (sim1 (cfgH2.at (some (2,3))) 4000 ((sumC X N o n m A).fill J)) [true] z =
  (cTurn X N A,some (.inr (q2a qwm 11 (sumC X N o n m ⟨A.p+A.s.den,.lit 64,A.len - 64,A.cap - 64,cmpW (qvb A.ws) (qeb X (A.p+A.s.den+0))⟩)))):=by kernel_rfl
theorem qkv (B:SumA):boolC (q0a 5 qwm (sumC X N o n m A) (sumC X N o n m B)) (allN qva (sumC X N o n m B).heap) false=true:=by kernel_rfl
theorem jda:outL [] (sumC X N o n m A) qwm (sim1 (cfgH2.at none) 8000 ((sumC X N o n m A).fill J)) [false,false] z =
  (cEnd X N A false 64 [0+64<=64],some (.inl (.agg (bx (qzi (end1 X n A))),[]))):=by kernel_rfl
theorem jea:outL [] (sumC X N o n m A) qwm (sim1 (cfgH2.at none) 8000 ((sumC X N o n m A).fill J)) [false,true] z =
  (cEnd X N A true 128 [0+64<=128,64+64<=128],some (.inl (.agg (bx (qzi (end2 X n A))),[]))):=by kernel_rfl
end
end
end Go.Proofs.YthkgcljngalafaaDoor.Aes
