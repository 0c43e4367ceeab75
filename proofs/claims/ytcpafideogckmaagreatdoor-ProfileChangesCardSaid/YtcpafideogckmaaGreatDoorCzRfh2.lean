/-
  The reference's hash, second part: a block, its loops.
-/
import Derived.Test.YtcpafideogckmaaGreatDoorPc11
namespace Go.Proofs.YtcpafideogckmaaGreatDoor.Aes
noncomputable section
open Go.Sim
open Go.Proofs
variable {α:Type}
def kW (i:Nat):W32:=atW constV' i
def q20:SO:=.row (.fn (fun i=>iw (kW i)) 64)
def rfhH (l:List SO):List SO:=q3f::q4f::qpl::q20::l
section
variable (X:Nat->BitVec 8) (N o m:Nat) (L:List W32)
def qno:List SV:=[.agg (ux (q0a L)),.slice ⟨4,.sym o⟩ (.lit 64) (.sym m)]
def q7s:List SO:=rfhH [rowF X N]
def qc9:SS:=qah (qca (cfgR1.at none) 1888 68 (qno o m L) (q7s X N)) []
structure BlkA where
 t:Int
 W:Nat->W32
def blkC (A:BlkA):Cut :=
 ⟨q2f (qc9 X N o m L).frames [[(2,.ptr ⟨5,.lit 0⟩),(4,.ptr ⟨6,.lit 0⟩),(5,.ptr ⟨7,.lit 0⟩),(8,.int .i64 (.sym A.t))]],
  [.ent q3f,.ent q4f,.ent qpl,.ent q20,.ent (rowF X N),.ent (.own (.lst (ux (q0a L))) true 94),entN (qc9 X N o m L).heap 6,.ent (.own (.fn (fun j=>iw (A.W j)) 64) true 115)]⟩
def junk0:Junk:=⟨fun _ _=>undef,fun _ _=>undef⟩
def blkS3:SS:=qah (sim1 (cfgR1.at (some (1,3))) 400 ((blkC X N o m L ⟨64,fun _=>wd 0⟩).fill junk0)) [false]
structure BlkB where
 t:Int
 W:Nat->W32
 V:List W32
def blkD (B:BlkB):Cut :=
 ⟨q2f (blkS3 X N o m L).frames [[(2,.ptr ⟨5,.lit 0⟩),(4,.ptr ⟨6,.lit 0⟩),(5,.ptr ⟨7,.lit 0⟩),(13,.ptr ⟨8,.lit 0⟩),(14,.int .i64 (.sym B.t))]],
  [.ent q3f,.ent q4f,.ent qpl,.ent q20,.ent (rowF X N),.ent (.own (.lst (ux (q0a L))) true 94),entN (qc9 X N o m L).heap 6,.ent (.own (.fn (fun j=>iw (B.W j)) 64) true 115),.ent (.own (.lst (ux (q0a B.V))) true 94)]⟩
inductive BlkS where
 | a (A:BlkA)
 | b (B:BlkB)
def blkX (S:BlkS):Cut:=BlkS.rec (motive:=fun _=>Cut) (fun A=>blkC X N o m L A) (fun B=>blkD X N o m L B) S
def q1w:List Nat:=q6a 8 0
def eI (i:Nat) (r:Nat):Int:=Nat.rec (motive:=fun _=>Int) (0+((X i).toNat:Int)) (fun r e=>qqg .i64 (Int.mul 256 e)+((X (i+(r+1))).toNat:Int)) r
def cBlk:List Prop:=List.rec (motive:=fun _=>List Prop) [] (fun t _ ih=>(o+(4 * t+0)<N)::qza (eI X (o+4 * t) 0)::(o+(4 * t+1)<N)::qza (eI X (o+4 * t) 1)::(o+(4 * t+2)<N)::qza (eI X (o+4 * t) 2)::(o+(4 * t+3)<N)::qza (eI X (o+4 * t) 3)::ih) (q6a 16 0)
def wL0:List SV:=app (mapN (fun t=>.int .i64 (.sym (eI X (o+4 * t) 3))) (q6a 16 0)) (repN (.int .i64 (.lit 0)) 48)
theorem joh (W:Nat->W32) (z:Nat->Nat->Nat):outL [] (blkC X N o m L ⟨16,W⟩) q1w (qca (cfgR1.at none) 1888 68 (qno o m L) (q7s X N)) [] z =
  (cBlk X N o,some (.inr (q0b [(0,8,.int .i64 (.lit 16))] [(7,.ent (.own (.lst (wL0 X o)) true 115))] (qhb q1w 8 (blkC X N o m L ⟨16,W⟩))))):=by kernel_rfl
def atI (W:Nat->W32) (i:Int):W32:=W (0+i.toNat * 1)
def sg1 (y:W32):W32:=rrt y 17 ^^^ rrt y 19 ^^^ y >>> 10
def rsg0 (x:W32):W32:=rrt x 7 ^^^ rrt x 18 ^^^ x >>> 3
def qql (A:BlkA):Int:=((sg1 (atI A.W (A.t - 2))).toNat:Int)+((atI A.W (A.t - 7)).toNat:Int)+((rsg0 (atI A.W (A.t - 15))).toNat:Int)+((atI A.W (A.t - 16)).toNat:Int)
def rrdC (A:BlkA) (k:Int) (r:List Prop):List Prop:=qza (A.t - k)::(0<=A.t - k/\A.t - k<64)::(0+(A.t - k).toNat * 1<64)::r
def c2 (A:BlkA):List Prop:=(decide (A.t<64)=true)::rrdC A 15 (rrdC A 2 (rrdC A 7 (qza (((sg1 (atI A.W (A.t - 2))).toNat:Int)+((atI A.W (A.t - 7)).toNat:Int))::qza (((sg1 (atI A.W (A.t - 2))).toNat:Int)+((atI A.W (A.t - 7)).toNat:Int)+((rsg0 (atI A.W (A.t - 15))).toNat:Int)) ::
 rrdC A 16 [qza (qql A),0<=qql A,0<=A.t/\A.t<64,0+A.t.toNat * 1<64,qza (A.t+1)])))
def newW (A:BlkA):Nat->W32:=fun j=>if j=0+A.t.toNat * 1 then BitVec.ofInt 32 (qql A) else A.W j
theorem jae (A:BlkA) (J:Junk) (z:Nat->Nat->Nat):outL [] (blkC X N o m L A) q1w (sim1 (cfgR1.at (some (1,3))) 4000 ((blkC X N o m L A).fill J)) [true] z =
  (c2 A,some (.inr (q0b [] [(7,.ent (.own (.fn (fun j=>if j=0+A.t.toNat * 1 then iw (BitVec.ofInt 32 (qql A)) else iw (A.W j)) 64) true 115))] (qhb q1w 8 (blkC X N o m L ⟨A.t+1,newW A⟩))))):=by kernel_rfl
def qoo:List Nat:=q6a 9 0
theorem jbe (A:BlkA) (t:Int) (J:Junk) (z:Nat->Nat->Nat):outL [] (blkD X N o m L ⟨t,A.W,L⟩) qoo (sim1 (cfgR1.at (some (1,3))) 4000 ((blkC X N o m L A).fill J)) [false] z =
  ([decide (A.t<64)=false],some (.inr (q0b [(0,14,.int .i64 (.lit 0))] [] (qhb qoo 9 (blkD X N o m L ⟨t,A.W,L⟩))))):=by kernel_rfl
def s1V (V:List W32):W32:=rrt (atW V 4) 6 ^^^ rrt (atW V 4) 11 ^^^ rrt (atW V 4) 25
def s0V (V:List W32):W32:=rrt (atW V 0) 2 ^^^ rrt (atW V 0) 13 ^^^ rrt (atW V 0) 22
def tI1 (B:BlkB):Int:=((atW B.V 7).toNat:Int)+((s1V B.V).toNat:Int)
def tI2 (B:BlkB):Int:=tI1 B+((qji (atW B.V 4) (atW B.V 5) (atW B.V 6)).toNat:Int)
def tI3 (B:BlkB):Int:=tI2 B+((atI kW B.t).toNat:Int)
def tI4 (B:BlkB):Int:=tI3 B+((atI B.W B.t).toNat:Int)
def tI5 (B:BlkB):Int:=((s0V B.V).toNat:Int)+((majW (atW B.V 0) (atW B.V 1) (atW B.V 2)).toNat:Int)
def tA (B:BlkB):Int:=tI4 B+tI5 B
def tE (B:BlkB):Int:=((atW B.V 3).toNat:Int)+tI4 B
def ixC (t:Int) (r:List Prop):List Prop:=(0<=t/\t<64)::(0+t.toNat * 1<64)::r
def c3 (B:BlkB):List Prop:=(decide (B.t<64)=true)::qza (tI1 B)::qza (tI2 B)::ixC B.t (qza (tI3 B)::ixC B.t [qza (tI4 B),qza (tI5 B),qza (tA B),0<=tA B,qza (tE B),0<=tE B,qza (B.t+1)])
def newV (B:BlkB):List W32:=[BitVec.ofInt 32 (tA B),atW B.V 0,atW B.V 1,atW B.V 2,BitVec.ofInt 32 (tE B),atW B.V 4,atW B.V 5,atW B.V 6]
theorem jce (B:BlkB) (J:Junk) (z:Nat->Nat->Nat):outL [] (blkD X N o m L B) qoo (sim1 (cfgR1.at (some (1,3))) 4000 ((blkD X N o m L B).fill J)) [true] z =
  (c3 B,some (.inr (qhb qoo 9 (blkD X N o m L ⟨B.t+1,B.W,newV B⟩)))):=by kernel_rfl
def sumI (L V:List W32) (i:Nat):Int:=((atW L i).toNat:Int)+((atW V i).toNat:Int)
def c4 (B:BlkB):List Prop:=(decide (B.t<64)=false)::List.rec (motive:=fun _=>List Prop) [] (fun i _ ih=>qza (sumI L B.V i)::(0<=sumI L B.V i)::ih) (q6a 8 0)
def endV (V:List W32):List W32:=mapN (fun i=>BitVec.ofInt 32 (sumI L V i)) (q6a 8 0)
theorem jph (B:BlkB) (J:Junk) (z:Nat->Nat->Nat):outL [] (blkD X N o m L B) qoo (sim1 (cfgR1.at none) 4000 ((blkD X N o m L B).fill J)) [false] z =
  (c4 L B,some (.inl (.agg (ux (endV L B.V)),[]))):=by kernel_rfl
theorem q2w (A A':BlkA):boolC (qvb 5 q1w (blkC X N o m L A) (blkC X N o m L A')) (allN qlb (blkC X N o m L A').heap) false=true:=by kernel_rfl
theorem q3w (B B':BlkB):boolC (qvb 5 qoo (blkD X N o m L B) (blkD X N o m L B')) (allN qlb (blkD X N o m L B').heap) false=true:=by kernel_rfl
theorem jqh (A:BlkA):(((blkX X N o m L (.a A)).frames[0]?).bind fun p=>p.tmps[8]?)=some (some (.int .i64 (.sym A.t))):=by kernel_rfl
theorem jrh (B:BlkB):(((blkX X N o m L (.b B)).frames[0]?).bind fun p=>p.tmps[14]?)=some (some (.int .i64 (.sym B.t))):=by kernel_rfl
end
end
end Go.Proofs.YtcpafideogckmaaGreatDoor.Aes
