/-
  The hash function: Sum, its loop.
-/
import Derived.Test.YtcpafideogckmaaGreatDoorCzSha1
namespace Go.Proofs.YtcpafideogckmaaGreatDoor.Aes
noncomputable section
open Go.Sim
open Go.Proofs
variable {α:Type}
def sums2:List (FuncId × Summ):=[(115,addS)]
def cfgH2:Cfg:=cfgG q3b (qbb sums2)
theorem q35:CfgOK cfgH2:=qwb (allS jzl (by simp))
def q10 (nm o n m:Nat):SV:=.tail ⟨nm,.sym o⟩ (.lit 0) (.sym n) (.sym m)
def q6s (o n m:Nat):List SV:=[q10 4 o n m]
def qey (X:Nat->BitVec 8) (N:Nat):List SO:=qpc [rowF X N]
def q78 (X:Nat->BitVec 8) (N o n m:Nat):SS:=qah (qca (cfgH2.at (some (2,3))) 4000 99 (q6s o n m) (qey X N)) []
structure SumA where
 p:Nat
 s:SN
 len:Nat
 cap:Nat
 ws:List W32
def entN (H:List SO) (i:Nat):HP:=optC (nth H i) (.ent .gone) fun e=>.ent e
def sumC (X:Nat->BitVec 8) (N o n m:Nat) (A:SumA):Cut :=
 ⟨q2f (q78 X N o n m).frames [[(0,.func (.yield 10) [] []),(1,.ptr ⟨7,.lit 0⟩),(2,.ptr ⟨8,.lit 0⟩),(4,.tail ⟨4,.sym A.p⟩ A.s (.sym A.len) (.sym A.cap))],[(2,.ptr ⟨5,.lit 0⟩),(3,.ptr ⟨6,.lit 0⟩)]],
  [.ent q3f,.ent q4f,.ent anyR,.ent anyR,.ent (rowF X N),entN (q78 X N o n m).heap 5,.ent (.own (.lst (wx (q0a A.ws))) true 138),.ent .gone,.ent (.own (.lst [.int .i64 (.sym n)]) true 3),.ent (.deferred (some [])),bareL (nth (q78 X N o n m).heap 10) [(3,.ptr ⟨6,.lit 0⟩)]]⟩
def q5p:List Nat:=q6a 11 0
def cTurn (X:Nat->BitVec 8) (N:Nat) (A:SumA):List Prop:=[decide ((A.len:Int)>=64)=true,0<A.len,64<=A.cap,IsB (qea X),A.p+A.s.den+0+64<=N,0<A.len,64<=A.len]
def endL (size:Nat) (Y:Nat->BitVec 8) (len n:Nat):List (BitVec 8) :=
 qhk (putB (0+(len:Int).toNat * 1) 1 (fun _=>BitVec.ofNat 8 128) (putB 0 len Y (repN (BitVec.ofNat 8 0) size) 0) 0) (Nat.sub size 8)
  (mapN (fun j=>((BitVec.ofInt 64 (n:Int) * BitVec.ofInt 64 8) >>> (8 * (7 - j))).setWidth 8) (q6a 8 0))
def byte4 (x:W32):List (BitVec 8):=[(x >>> 24).setWidth 8,(x >>> 16).setWidth 8,(x >>> 8).setWidth 8,x.setWidth 8]
def qfe (l:List W32):List (BitVec 8):=List.rec (motive:=fun _=>List (BitVec 8)) [] (fun x _ ih=>app (byte4 x) ih) (q0a l)
def cEnd (X:Nat->BitVec 8) (N:Nat) (A:SumA) (big:Bool) (size:Nat) (r:List Prop):List Prop :=
 (decide ((A.len:Int)>=64)=false)::qza ((A.len:Int)+9)::(decide ((A.len:Int)+9 > 64)=big)::(A.p+A.s.den+A.len<=N/\IsB (qea X))::(A.len<=size)::(0+A.len<=size)::(0<=(A.len:Int)/\(A.len:Int)<(size:Int))::(0+(A.len:Int).toNat * 1+1<=size)::r
def q6p (X:Nat->BitVec 8) (A:SumA):Nat->BitVec 8:=fun i=>X (A.p+A.s.den+i)
def end1 (X:Nat->BitVec 8) (n:Nat) (A:SumA):List W32:=cmpW (q0a A.ws) (q7a (qba (endL 64 (q6p X A) A.len n)) 0)
def end2 (X:Nat->BitVec 8) (n:Nat) (A:SumA):List W32:=cmpW (q0a (cmpW (q0a A.ws) (q7a (qba (endL 128 (q6p X A) A.len n)) 0))) (q7a (qba (endL 128 (q6p X A) A.len n)) 64)
section
variable (X:Nat->BitVec 8) (N o n m:Nat) (A:SumA) (J:Junk) (z:Nat->Nat->Nat)
theorem jfh:outL [] (sumC X N o n m ⟨o,.lit 0,n,m,qyc⟩) q5p (qca (cfgH2.at (some (2,3))) 4000 99 (q6s o n m) (qey X N)) [] z =
  ([],some (.inr (qhi 6 (.ent (.own (.lst (kx .u32 startL)) true 138)) (qhb q5p 11 (sumC X N o n m ⟨o,.lit 0,n,m,qyc⟩))))):=by kernel_rfl
theorem jgh:outL [] (sumC X N o n m A) q5p (sim1 (cfgH2.at (some (2,3))) 4000 ((sumC X N o n m A).fill J)) [true] z =
  (cTurn X N A,some (.inr (qhb q5p 11 (sumC X N o n m ⟨A.p+A.s.den,.lit 64,A.len - 64,A.cap - 64,cmpW (q0a A.ws) (q7a X (A.p+A.s.den+0))⟩)))):=by kernel_rfl
theorem qoz (B:SumA):boolC (qvb 5 q5p (sumC X N o n m A) (sumC X N o n m B)) (allN qlb (sumC X N o n m B).heap) false=true:=by kernel_rfl
theorem jhh:outL [] (sumC X N o n m A) q5p (sim1 (cfgH2.at none) 8000 ((sumC X N o n m A).fill J)) [false,false] z =
  (cEnd X N A false 64 [0+64<=64],some (.inl (.agg (bx (qfe (end1 X n A))),[]))):=by kernel_rfl
theorem jih:outL [] (sumC X N o n m A) q5p (sim1 (cfgH2.at none) 8000 ((sumC X N o n m A).fill J)) [false,true] z =
  (cEnd X N A true 128 [0+64<=128,64+64<=128],some (.inl (.agg (bx (qfe (end2 X n A))),[]))):=by kernel_rfl
end
end
end Go.Proofs.YtcpafideogckmaaGreatDoor.Aes
