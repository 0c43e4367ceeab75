/-
  The hash function: Sum, its loop.
-/
import Derived.Test.YtbmgahpjgefjaaaGreatDoorZSha1
namespace Go.Proofs.YtbmgahpjgefjaaaGreatDoor.Aes
open Go.Sim
open Go.Proofs
variable {α:Type}
noncomputable def sums2:List (FuncId × Summ):=[(127,addS)]
noncomputable def cfgH2:Cfg:=cfgG q9b (qcb sums2)
theorem qz5:CfgOK cfgH2:=qwb (allS jmk (by simp))
noncomputable def q20 (nm o n m:Nat):SV:=.tail ⟨nm,.sym o⟩ (.lit 0) (.sym n) (.sym m)
noncomputable def q6s (o n m:Nat):List SV:=[q20 4 o n m]
noncomputable def qgy (X:Nat→BitVec 8) (N:Nat):List SO:=q4c [rowF X N]
noncomputable def q08 (X:Nat→BitVec 8) (N o n m:Nat):SS:=qxh (qba (cfgH2.at (some (2,3))) 4000 102 (q6s o n m) (qgy X N)) []
structure SumA where
  p:Nat
  s:SN
  len:Nat
  cap:Nat
  ws:List W32
noncomputable def entN (H:List SO) (i:Nat):HP:=optC (nth H i) (.ent .gone) fun e=>.ent e
noncomputable def sumC (X:Nat→BitVec 8) (N o n m:Nat) (A:SumA):Cut :=
  ⟨qag (q08 X N o n m).frames [[(0,.func (.yield 10) [] []),(1,.ptr ⟨7,.lit 0⟩),(2,.ptr ⟨8,.lit 0⟩),(4,.tail ⟨4,.sym A.p⟩ A.s (.sym A.len) (.sym A.cap))],[(2,.ptr ⟨5,.lit 0⟩),(3,.ptr ⟨6,.lit 0⟩)]],
   [.ent qbg,.ent qcg,.ent anyR,.ent anyR,.ent (rowF X N),entN (q08 X N o n m).heap 5,.ent (.own (.lst (wx (qxa A.ws))) true 137),.ent .gone,.ent (.own (.lst [.int .i64 (.sym n)]) true 3),.ent (.deferred (some [])),bareL (nth (q08 X N o n m).heap 10) [(3,.ptr ⟨6,.lit 0⟩)]]⟩
noncomputable def q2p:List Nat:=qka 11 0
noncomputable def cTurn (X:Nat→BitVec 8) (N:Nat) (A:SumA):List Prop:=[decide ((A.len:Int)≥64)=true,0<A.len,64≤A.cap,IsB (qea X),A.p+A.s.den+0+64≤N,0<A.len,64≤A.len]
noncomputable def endL (size:Nat) (Y:Nat→BitVec 8) (len n:Nat):List (BitVec 8) :=
  qjk (putB (0+(len:Int).toNat * 1) 1 (fun _=>BitVec.ofNat 8 128) (putB 0 len Y (repN (BitVec.ofNat 8 0) size) 0) 0) (Nat.sub size 8)
    (mapN (fun j=>((BitVec.ofInt 64 (n:Int) * BitVec.ofInt 64 8) >>> (8 * (7 - j))).setWidth 8) (qka 8 0))
noncomputable def byte4 (x:W32):List (BitVec 8):=[(x >>> 24).setWidth 8,(x >>> 16).setWidth 8,(x >>> 8).setWidth 8,x.setWidth 8]
noncomputable def q6d (l:List W32):List (BitVec 8):=List.rec (motive:=fun _=>List (BitVec 8)) [] (fun x _ ih=>app (byte4 x) ih) (qxa l)
noncomputable def cEnd (X:Nat→BitVec 8) (N:Nat) (A:SumA) (big:Bool) (size:Nat) (r:List Prop):List Prop :=
  (decide ((A.len:Int)≥64)=false)::q4a ((A.len:Int)+9)::(decide ((A.len:Int)+9 > 64)=big)::(A.p+A.s.den+A.len≤N∧IsB (qea X))::(A.len≤size)::(0+A.len≤size)::(0≤(A.len:Int)∧(A.len:Int)<(size:Int))::(0+(A.len:Int).toNat * 1+1≤size)::r
noncomputable def q3p (X:Nat→BitVec 8) (A:SumA):Nat→BitVec 8:=fun i=>X (A.p+A.s.den+i)
noncomputable def end1 (X:Nat→BitVec 8) (n:Nat) (A:SumA):List W32:=cmpW (qxa A.ws) (q9a (qaa (endL 64 (q3p X A) A.len n)) 0)
noncomputable def end2 (X:Nat→BitVec 8) (n:Nat) (A:SumA):List W32:=cmpW (qxa (cmpW (qxa A.ws) (q9a (qaa (endL 128 (q3p X A) A.len n)) 0))) (q9a (qaa (endL 128 (q3p X A) A.len n)) 64)
section
variable (X:Nat→BitVec 8) (N o n m:Nat) (A:SumA) (J:Junk) (z:Nat→Nat→Nat)
theorem jsg:outL [] (sumC X N o n m ⟨o,.lit 0,n,m,qvc⟩) q2p (qba (cfgH2.at (some (2,3))) 4000 102 (q6s o n m) (qgy X N)) [] z =
    ([],some (.inr (q9h 6 (.ent (.own (.lst (kx .u32 startL)) true 137)) (qnb q2p 11 (sumC X N o n m ⟨o,.lit 0,n,m,qvc⟩))))):=by kernel_rfl
theorem jtg:outL [] (sumC X N o n m A) q2p (sim1 (cfgH2.at (some (2,3))) 4000 ((sumC X N o n m A).fill J)) [true] z =
    (cTurn X N A,some (.inr (qnb q2p 11 (sumC X N o n m ⟨A.p+A.s.den,.lit 64,A.len - 64,A.cap - 64,cmpW (qxa A.ws) (q9a X (A.p+A.s.den+0))⟩)))):=by kernel_rfl
theorem qrz (B:SumA):boolC (q2b 5 q2p (sumC X N o n m A) (sumC X N o n m B)) (allN qub (sumC X N o n m B).heap) false=true:=by kernel_rfl
theorem jug:outL [] (sumC X N o n m A) q2p (sim1 (cfgH2.at none) 8000 ((sumC X N o n m A).fill J)) [false,false] z =
    (cEnd X N A false 64 [0+64≤64],some (.inl (.agg (bx (q6d (end1 X n A))),[]))):=by kernel_rfl
theorem jvg:outL [] (sumC X N o n m A) q2p (sim1 (cfgH2.at none) 8000 ((sumC X N o n m A).fill J)) [false,true] z =
    (cEnd X N A true 128 [0+64≤128,64+64≤128],some (.inl (.agg (bx (q6d (end2 X n A))),[]))):=by kernel_rfl
end
end Go.Proofs.YtbmgahpjgefjaaaGreatDoor.Aes
