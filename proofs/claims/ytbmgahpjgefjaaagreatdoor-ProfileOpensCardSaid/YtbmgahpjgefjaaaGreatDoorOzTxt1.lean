/-
  The reference's chained blocks.
-/
import Derived.Test.YtbmgahpjgefjaaaGreatDoorPo7
import Derived.Test.YtbmgahpjgefjaaaGreatDoorOzCts5
namespace Go.Proofs.YtbmgahpjgefjaaaGreatDoor.Aes
open Go.Sim
open Go.Proofs
open Go.RowKit
variable {α:Type}
set_option maxRecDepth 1000000
theorem allA {glob:Nat→Option Nat} {x:FuncId × Summ} {l:List (FuncId × Summ)} (h:SumAt Tryz.prog glob x.1 x.2) (h':∀ y∈l,SumAt Tryz.prog glob y.1 y.2):∀ y∈x::l,SumAt Tryz.prog glob y.1 y.2:=by
  intro y hy
  rcases List.mem_cons.1 hy with rfl | hy
  · exact h
  · exact h' y hy
noncomputable def qn0:Cfg:=cfgG qog (qbb [(64,qxx),(93,qtl encL),(66,qtl decL)])
theorem jqn:CfgOK qn0:=q2b (allA ql2 (allA j6r (allA jwc (by simp))))
noncomputable def b16C (o n:Nat) (r:Nat→List Prop):List Prop:=Nat.rec (motive:=fun _=>Nat→List Prop) (fun _=>r 16) (fun _ ih i=>(o+i<n)::ih (i+1)) 16 0
noncomputable def xorC (o n o2 n2:Nat) (r:List Prop):List Prop:=Nat.rec (motive:=fun _=>Nat→List Prop) (fun _=>r) (fun _ ih i=>(o+i<n)::(o2+i<n2)::ih (i+1)) 16 0
noncomputable def qt8 (o3 n3:Nat) (m:Nat):Nat→List Prop:=Nat.rec (motive:=fun _=>Nat→List Prop) (fun _=>[]) (fun _ ih i=>b16C (o3+16 * i) n3 fun _=>(16≤16∧176≤176)::ih (i+1)) m
noncomputable def rchC (X:Nat→BitVec 8) (n o n2 o2 n3 o3 m:Nat):List Prop:=IsB (qda X)::(o+16≤n)::xorC (o3+0) n3 o2 n2 ((16≤16∧176≤176)::qt8 o3 n3 m 1)
noncomputable def qv2 (ks:Nat→BitVec 8) (bs:List Blk):Blk→List Blk:=List.rec (motive:=fun _=>Blk→List Blk) (fun _=>[]) (fun b _ ih prev=>encL ks (addL b prev)::ih (encL ks (addL b prev))) bs
theorem jad (a b:Blk):addL a b=addL b a:=by
  unfold addL
  simp only [BitVec.xor_comm]
theorem qaz (ks:Nat→BitVec 8):∀ (bs:List Blk) (v:Blk),qv2 ks bs v=chainL ks bs v
  | [],_=>rfl
  | b::r,v=>by
    show encL ks (addL b v)::qv2 ks r (encL ks (addL b v))=encL ks (addL v b)::chainL ks r (encL ks (addL v b))
    rw [jad b v,qaz ks r]
noncomputable def chJ (X Y Z:Nat→BitVec 8) (o o2 o3 m:Nat):Blk:=q1m (qv2 (qaa (q5e (qha X o))) (q4c Z o3 m) (qha Y o2))
section
variable (X Y Z:Nat→BitVec 8) (n m1 n2 m2 n3 m3 o o2 o3:Nat)
noncomputable def rchL (m:Nat):List Prop × Option (SV × List (Option SO)):=outO [Nat.add 4 (Nat.mul 3 m)] (qca qn0 20000 62 [.slice ⟨1,.sym o⟩ (.lit 16) (.sym m1),.slice ⟨2,.sym o2⟩ (.lit 16) (.sym m2),.slice ⟨3,.sym o3⟩ (.lit (Nat.mul 16 m)) (.sym m3)] [tabR,rowF X n,rowF Y n2,rowF Z n3]) []
noncomputable def rchR (m:Nat):List Prop × Option (SV × List (Option SO)):=(rchC X n o n2 o2 n3 o3 (Nat.pred m),some (.slice ⟨Nat.add 4 (Nat.mul 3 m),.lit 0⟩ (.lit (Nat.mul 16 m)) (.rest (Nat.add 4 (Nat.mul 3 m)) 0),[some (.own (.lst (bx (chJ X Y Z o o2 o3 m))) false 5)]))
theorem jog:mapN (rchL X Y Z n m1 n2 m2 n3 m3 o o2 o3) (q5a 14 1)=mapN (rchR X Y Z n n2 n3 o o2 o3) (q5a 14 1):=by kernel_rfl
theorem jrn:outO [] (qca qn0 20000 62 [.slice ⟨1,.sym o⟩ (.lit 16) (.sym m1),.slice ⟨2,.sym o2⟩ (.lit 16) (.sym m2),.nilSlice] [tabR,rowF X n,rowF Y n2]) []=([IsB (qda X),o+16≤n],some (.nilSlice,[])):=by kernel_rfl
end
end Go.Proofs.YtbmgahpjgefjaaaGreatDoor.Aes
