/-
  The reference's chained blocks.
-/
import Derived.Test.YtcpafideogckmaaGreatDoorPc7
import Derived.Test.YtcpafideogckmaaGreatDoorCzCts5
namespace Go.Proofs.YtcpafideogckmaaGreatDoor.Aes
noncomputable section
open Go.Sim
open Go.Proofs
open Go.RowKit
variable {α:Type}
set_option maxRecDepth 1000000
theorem allA {glob:Nat->Option Nat} {x:FuncId × Summ} {l:List (FuncId × Summ)} (h:SumAt Tryz.prog glob x.1 x.2) (h':∀ y∈l,SumAt Tryz.prog glob y.1 y.2):∀ y∈x::l,SumAt Tryz.prog glob y.1 y.2:=by
 intro y hy
 rcases List.mem_cons.1 hy with rfl | hy
 . exact h
 . exact h' y hy
def qw0:Cfg:=cfgG qvg (qbb [(38,q8x),(53,qyl encL),(40,qyl decL)])
theorem jdo:CfgOK qw0:=qwb (allA qr2 (allA j4s (allA jbd (by simp))))
def b16C (o n:Nat) (r:Nat->List Prop):List Prop:=Nat.rec (motive:=fun _=>Nat->List Prop) (fun _=>r 16) (fun _ ih i=>(o+i<n)::ih (i+1)) 16 0
def xorC (o n o2 n2:Nat) (r:List Prop):List Prop:=Nat.rec (motive:=fun _=>Nat->List Prop) (fun _=>r) (fun _ ih i=>(o+i<n)::(o2+i<n2)::ih (i+1)) 16 0
def q08 (o3 n3:Nat) (m:Nat):Nat->List Prop:=Nat.rec (motive:=fun _=>Nat->List Prop) (fun _=>[]) (fun _ ih i=>b16C (o3+16 * i) n3 fun _=>(16<=16/\176<=176)::ih (i+1)) m
def rchC (X:Nat->BitVec 8) (n o n2 o2 n3 o3 m:Nat):List Prop:=IsB (qea X)::(o+16<=n)::xorC (o3+0) n3 o2 n2 ((16<=16/\176<=176)::q08 o3 n3 m 1)
def q02 (ks:Nat->BitVec 8) (bs:List Blk):Blk->List Blk:=List.rec (motive:=fun _=>Blk->List Blk) (fun _=>[]) (fun b _ ih prev=>encL ks (addL b prev)::ih (encL ks (addL b prev))) bs
theorem jpd (a b:Blk):addL a b=addL b a:=by
 unfold addL
 simp only [BitVec.xor_comm]
theorem qiz (ks:Nat->BitVec 8):∀ (bs:List Blk) (v:Blk),q02 ks bs v=chainL ks bs v
 | [],_=>rfl
 | b::r,v=>by
   show encL ks (addL b v)::q02 ks r (encL ks (addL b v))=encL ks (addL v b)::chainL ks r (encL ks (addL v b))
   rw [jpd b v,qiz ks r]
def chJ (X Y Z:Nat->BitVec 8) (o o2 o3 m:Nat):Blk:=q3m (q02 (qba (q9e (qha X o))) (q6c Z o3 m) (qha Y o2))
section
variable (X Y Z:Nat->BitVec 8) (n m1 n2 m2 n3 m3 o o2 o3:Nat)
def rchL (m:Nat):List Prop × Option (SV × List (Option SO)):=outO [Nat.add 4 (Nat.mul 3 m)] (qca qw0 20000 35 [.slice ⟨1,.sym o⟩ (.lit 16) (.sym m1),.slice ⟨2,.sym o2⟩ (.lit 16) (.sym m2),.slice ⟨3,.sym o3⟩ (.lit (Nat.mul 16 m)) (.sym m3)] [tabR,rowF X n,rowF Y n2,rowF Z n3]) []
def rchR (m:Nat):List Prop × Option (SV × List (Option SO)):=(rchC X n o n2 o2 n3 o3 (Nat.pred m),some (.slice ⟨Nat.add 4 (Nat.mul 3 m),.lit 0⟩ (.lit (Nat.mul 16 m)) (.rest (Nat.add 4 (Nat.mul 3 m)) 0),[some (.own (.lst (bx (chJ X Y Z o o2 o3 m))) false 5)]))
theorem j4g:mapN (rchL X Y Z n m1 n2 m2 n3 m3 o o2 o3) (q6a 14 1)=mapN (rchR X Y Z n n2 n3 o o2 o3) (q6a 14 1):=by kernel_rfl
theorem jeo:outO [] (qca qw0 20000 35 [.slice ⟨1,.sym o⟩ (.lit 16) (.sym m1),.slice ⟨2,.sym o2⟩ (.lit 16) (.sym m2),.nilSlice] [tabR,rowF X n,rowF Y n2]) []=([IsB (qea X),o+16<=n],some (.nilSlice,[])):=by kernel_rfl
end
end
end Go.Proofs.YtcpafideogckmaaGreatDoor.Aes
