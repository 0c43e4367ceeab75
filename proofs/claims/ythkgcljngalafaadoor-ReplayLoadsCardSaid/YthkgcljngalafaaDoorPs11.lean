/-
  The reference's hash: the padded string, its loop's runs.
-/
import Derived.Test.YthkgcljngalafaaDoorZsRfh4
namespace Go.Proofs.YthkgcljngalafaaDoor.Aes
noncomputable section
open Go.Sim
open Go.Proofs
variable {α:Type}
section
variable (X:Nat->BitVec 8) (N o n m:Nat)
def qep:List SV:=[.slice ⟨0,.sym o⟩ (.sym n) (.sym m)]
def padS0:SS:=qpd (qfa (cfg0.at (some (1,0))) 4000 50 (qep o n m) [rowF X N]) [false]
structure PadA where
 len:Nat
 Y:Nat->BitVec 8
def padC (A:PadA):Cut :=
 ⟨qqd (padS0 X N o n m).frames [[(0,.slice ⟨0,.sym o⟩ (.sym n) (.sym m)),(3,.slice ⟨1,.lit 0⟩ (.sym A.len) (.rest 1 0))]],[.ent (rowF X N),.ent (.own (.fn (qna A.Y) A.len) false 5)]⟩
def appB (Y:Nat->BitVec 8) (len:Nat) (b:BitVec 8):Nat->BitVec 8:=catB (fun i=>Sim.byteOf (qna Y (0+i))) len (fun i=>q4a [b] (0+i))
def cApp (Y:Nat->BitVec 8) (len:Nat) (r:List Prop):List Prop:=(1<=1)::(0+len<=len/\IsB (qna Y))::(qee (len+1) 1/\1=1)::r
theorem jcb (A:PadA) (J:Junk) (z:Nat->Nat->Nat):outL [] (padC X N o n m A) [0,3] (sim1 (cfg0.at (some (1,3))) 4000 ((padC X N o n m A).fill J)) [true] z =
  ((((A.len:Int).tmod 64 != 56)=true)::cApp A.Y A.len [],some (.inr (qqa [0,3] 4 (padC X N o n m ⟨A.len+1,appB A.Y A.len (BitVec.ofNat 8 0)⟩)))):=by kernel_rfl
def nB (n i:Nat):BitVec 8:=BitVec.ofInt 8 (((qyc .i64 (Int.mul 8 (n:Int))).fdiv (2 ^ (8 * i))).tmod 256)
def pad8 (n:Nat) (Y:Nat->BitVec 8) (len:Nat):Nat->BitVec 8 :=
 appB (appB (appB (appB (appB (appB (appB (appB Y len (nB n 7)) (len+1) (nB n 6)) (len+1+1) (nB n 5)) (len+1+1+1) (nB n 4)) (len+1+1+1+1) (nB n 3)) (len+1+1+1+1+1) (nB n 2)) (len+1+1+1+1+1+1) (nB n 1)) (len+1+1+1+1+1+1+1) (nB n 0)
def cPad8 (Y:Nat->BitVec 8) (len:Nat):List Prop :=
 cApp Y len (cApp (appB Y len (nB n 7)) (len+1) (cApp (appB (appB Y len (nB n 7)) (len+1) (nB n 6)) (len+1+1) (cApp (appB (appB (appB Y len (nB n 7)) (len+1) (nB n 6)) (len+1+1) (nB n 5)) (len+1+1+1)
  (cApp (appB (appB (appB (appB Y len (nB n 7)) (len+1) (nB n 6)) (len+1+1) (nB n 5)) (len+1+1+1) (nB n 4)) (len+1+1+1+1)
  (cApp (appB (appB (appB (appB (appB Y len (nB n 7)) (len+1) (nB n 6)) (len+1+1) (nB n 5)) (len+1+1+1) (nB n 4)) (len+1+1+1+1) (nB n 3)) (len+1+1+1+1+1)
  (cApp (appB (appB (appB (appB (appB (appB Y len (nB n 7)) (len+1) (nB n 6)) (len+1+1) (nB n 5)) (len+1+1+1) (nB n 4)) (len+1+1+1+1) (nB n 3)) (len+1+1+1+1+1) (nB n 2)) (len+1+1+1+1+1+1)
  (cApp (appB (appB (appB (appB (appB (appB (appB Y len (nB n 7)) (len+1) (nB n 6)) (len+1+1) (nB n 5)) (len+1+1+1) (nB n 4)) (len+1+1+1+1) (nB n 3)) (len+1+1+1+1+1) (nB n 2)) (len+1+1+1+1+1+1) (nB n 1)) (len+1+1+1+1+1+1+1) [])))))))
theorem j5f (A:PadA) (J:Junk) (z:Nat->Nat->Nat):outL [17] (padC X N o n m A) [0,1] (sim1 (cfg0.at none) 4000 ((padC X N o n m A).fill J)) [false] z =
  ((((A.len:Int).tmod 64 != 56)=false)::cPad8 n A.Y A.len,some (.inl (.slice ⟨17,.lit 0⟩ (.sym (A.len+1+1+1+1+1+1+1+1)) (.rest 17 0),[some (.own (.fn (qna (pad8 n A.Y A.len)) (A.len+1+1+1+1+1+1+1+1)) false 5)]))):=by kernel_rfl
theorem qe8 (A A':PadA):boolC (q5a 1 [0,3] (padC X N o n m A) (padC X N o n m A')) (allN qwa (padC X N o n m A').heap) false=true:=by kernel_rfl
theorem qt4 (A A':PadA):boolC (q5a 1 [0,4] (padC X N o n m A) (padC X N o n m A')) (allN qwa (padC X N o n m A').heap) false=true:=by kernel_rfl
def pad1:Nat->BitVec 8:=catB (fun i=>Sim.byteOf (qna X (o+(0+i)))) n (fun i=>q4a [BitVec.ofNat 8 128] (0+i))
theorem jdb (A0:PadA) (z:Nat->Nat->Nat):outL [] (padC X N o n m A0) [0,4] (qfa (cfg0.at (some (1,3))) 4000 50 (qep o n m) [rowF X N]) [false] z =
  ((o+n<=N)::(decide (n=0)=false)::(qee n 1/\1=1)::(1<=1)::(0+n<=n/\IsB (fun i=>qna X (o+i)))::(qee (n+1) 1/\1=1)::[],some (.inr (qqa [0,4] 5 (padC X N o n m ⟨n+1,pad1 X o n⟩)))):=by kernel_rfl
end
def qdk:List Nat:=128::repN 0 63
theorem j6f:outO [128] (qfa cfg0 12000 50 [.nilSlice] []) []=([],some (.slice ⟨128,.lit 0⟩ (.lit 64) (.rest 128 0),[some (.own (.lst (kx .u8 qdk)) false 5)])):=by kernel_rfl
theorem jeb (X:Nat->BitVec 8) (N o m:Nat):outO [129] (qfa cfg0 12000 50 [.slice ⟨0,.sym o⟩ (.lit 0) (.sym m)] [rowF X N]) []=([o+0<=N],some (.slice ⟨129,.lit 0⟩ (.lit 64) (.rest 129 0),[some (.own (.lst (kx .u8 qdk)) false 5)])):=by kernel_rfl
end
end Go.Proofs.YthkgcljngalafaaDoor.Aes
