/-
  ReplayOf: the chapter's examples, call by call.
-/
import Derived.Test.YthkgcljngalafaaDoorPs13
namespace Go.Proofs.YthkgcljngalafaaDoor.Aes
noncomputable section
open Go.Sim
open Go.Proofs
variable {α:Type}
set_option maxRecDepth 1000000
def li (n:Int):SV:=.int .i64 (.lit n)
def dgA:List SV:=kx .u8 [75,245,18,47,52,69,84,197,59,222,46,187,140,210,183,227,209,96,10,214,49,195,133,165,215,204,226,60,119,133,69,154]
def dgB:List SV:=kx .u8 [219,193,180,201,0,255,228,141,87,91,93,165,198,56,4,1,37,246,93,176,254,62,36,73,75,118,234,152,100,87,217,134]
def dgD:List SV:=kx .u8 [8,79,237,8,185,120,175,77,125,25,106,116,70,168,107,88,0,158,99,107,97,29,177,98,17,182,90,154,173,255,41,197]
def mkE3 (t:Int) (d:List SV) (b:Nat):SV × SV × Nat:=(.agg (li t::d),.agg [],b)
def q9a (clock fence:Int):SO:=.own (.lst [li 10,li 2,li clock,li fence,.map 4]) true 68
def mapE (es:List (SV × SV × Nat)) (c:Nat):SO:=.obj (.map es c)
def jed (n:Nat) (r:List SO):List SO:=Nat.rec (motive:=fun _=>List SO) r (fun _ ih=>.gone::ih) n
def joi (k:Nat) (C M:SO):List SO:=jed 4 (M::C::jed k [])
def callT (k:Nat) (f:FuncId) (args:List SV) (C M:SO):Tree:=qfa cfgP 2000 f args (joi k C M)
def EndsIn (t:Tree) (v:SV) (C M:SO):Prop:=t.Ob (endP [5,4] v [some C,some M]) fun _=>False
theorem EndsIn.of {t:Tree} {v:SV} {C M:SO} {n:Nat} (h:∀ z,allL [5,4] t z=([],repN (some (v,[some C,some M])) n)):EndsIn t v C M:=by
 refine qz0 (fun z p hp => ?_) fun z r hr => ?_
 . rw [h z] at hp; cases hp
 . rw [h z,q9c] at hr
   exact List.eq_of_mem_replicate hr
def q3d (k:Nat) (d:List SV) (time now:Int) (C M:SO):Tree:=callT k 16 [.ptr ⟨5,.lit 0⟩,.agg d,li time,li now] C M
def qj8 (k:Nat) (now:Int) (C M:SO):Tree:=callT k 15 [.ptr ⟨5,.lit 0⟩,li now] C M
def K1:Prop:=EndsIn (q3d 13 dgA 100 105 (q9a 0 (-1)) (mapE [] 0)) (li 0) (q9a 105 (-1)) (mapE [mkE3 100 dgA 0] 1)
theorem k1 (z:Nat->Nat->Nat):allL [5,4] (q3d 13 dgA 100 105 (q9a 0 (-1)) (mapE [] 0)) z=([],repN (some (li 0,[some (q9a 105 (-1)),some (mapE [mkE3 100 dgA 0] 1)])) 1):=by kernel_rfl
theorem K1_ok:K1:=EndsIn.of k1
def K2:Prop:=EndsIn (q3d 13 dgA 100 110 (q9a 105 (-1)) (mapE [mkE3 100 dgA 0] 1)) (li 11) (q9a 110 (-1)) (mapE [mkE3 100 dgA 0] 1)
theorem k2 (z:Nat->Nat->Nat):allL [5,4] (q3d 13 dgA 100 110 (q9a 105 (-1)) (mapE [mkE3 100 dgA 0] 1)) z=([],repN (some (li 11,[some (q9a 110 (-1)),some (mapE [mkE3 100 dgA 0] 1)])) 1):=by kernel_rfl
theorem K2_ok:K2:=EndsIn.of k2
def K3:Prop:=EndsIn (q3d 13 dgA 101 110 (q9a 110 (-1)) (mapE [mkE3 100 dgA 0] 1)) (li 0) (q9a 110 (-1)) (mapE [mkE3 100 dgA 0,mkE3 101 dgA 1] 2)
theorem k3 (z:Nat->Nat->Nat):allL [5,4] (q3d 13 dgA 101 110 (q9a 110 (-1)) (mapE [mkE3 100 dgA 0] 1)) z=([],repN (some (li 0,[some (q9a 110 (-1)),some (mapE [mkE3 100 dgA 0,mkE3 101 dgA 1] 2)])) 1):=by kernel_rfl
theorem K3_ok:K3:=EndsIn.of k3
def K4:Prop:=EndsIn (q3d 13 dgB 121 110 (q9a 110 (-1)) (mapE [mkE3 100 dgA 0,mkE3 101 dgA 1] 2)) (li 3) (q9a 110 (-1)) (mapE [mkE3 100 dgA 0,mkE3 101 dgA 1] 2)
theorem k4 (z:Nat->Nat->Nat):allL [5,4] (q3d 13 dgB 121 110 (q9a 110 (-1)) (mapE [mkE3 100 dgA 0,mkE3 101 dgA 1] 2)) z=([],repN (some (li 3,[some (q9a 110 (-1)),some (mapE [mkE3 100 dgA 0,mkE3 101 dgA 1] 2)])) 2):=by kernel_rfl
theorem K4_ok:K4:=EndsIn.of k4
def K5:Prop:=EndsIn (q3d 15 dgB 110 100 (q9a 110 (-1)) (mapE [mkE3 100 dgA 0,mkE3 101 dgA 1] 2)) (li 7) (q9a 110 (-1)) (mapE [mkE3 100 dgA 0,mkE3 101 dgA 1] 2)
theorem k5 (z:Nat->Nat->Nat):allL [5,4] (q3d 15 dgB 110 100 (q9a 110 (-1)) (mapE [mkE3 100 dgA 0,mkE3 101 dgA 1] 2)) z=([],repN (some (li 7,[some (q9a 110 (-1)),some (mapE [mkE3 100 dgA 0,mkE3 101 dgA 1] 2)])) 2):=by kernel_rfl
theorem K5_ok:K5:=EndsIn.of k5
def K6:Prop:=EndsIn (q3d 15 dgB 110 111 (q9a 110 (-1)) (mapE [mkE3 100 dgA 0,mkE3 101 dgA 1] 2)) (li 0) (q9a 111 (-1)) (mapE [mkE3 101 dgA 1,mkE3 110 dgB 2] 3)
theorem k6 (z:Nat->Nat->Nat):allL [5,4] (q3d 15 dgB 110 111 (q9a 110 (-1)) (mapE [mkE3 100 dgA 0,mkE3 101 dgA 1] 2)) z=([],repN (some (li 0,[some (q9a 111 (-1)),some (mapE [mkE3 101 dgA 1,mkE3 110 dgB 2] 3)])) 2):=by kernel_rfl
theorem K6_ok:K6:=EndsIn.of k6
def K7:Prop:=EndsIn (qj8 17 111 (q9a 111 (-1)) (mapE [mkE3 101 dgA 1,mkE3 110 dgB 2] 3)) (li 0) (q9a 111 121) (mapE [mkE3 101 dgA 1,mkE3 110 dgB 2] 3)
theorem k7 (z:Nat->Nat->Nat):allL [5,4] (qj8 17 111 (q9a 111 (-1)) (mapE [mkE3 101 dgA 1,mkE3 110 dgB 2] 3)) z=([],repN (some (li 0,[some (q9a 111 121),some (mapE [mkE3 101 dgA 1,mkE3 110 dgB 2] 3)])) 2):=by kernel_rfl
theorem K7_ok:K7:=EndsIn.of k7
def K8:Prop:=EndsIn (q3d 17 dgD 121 112 (q9a 111 121) (mapE [mkE3 101 dgA 1,mkE3 110 dgB 2] 3)) (li 8) (q9a 112 121) (mapE [mkE3 110 dgB 2] 3)
theorem k8 (z:Nat->Nat->Nat):allL [5,4] (q3d 17 dgD 121 112 (q9a 111 121) (mapE [mkE3 101 dgA 1,mkE3 110 dgB 2] 3)) z=([],repN (some (li 8,[some (q9a 112 121),some (mapE [mkE3 110 dgB 2] 3)])) 2):=by kernel_rfl
theorem K8_ok:K8:=EndsIn.of k8
def K9:Prop:=EndsIn (q3d 17 dgD 122 112 (q9a 112 121) (mapE [mkE3 110 dgB 2] 3)) (li 0) (q9a 112 121) (mapE [mkE3 110 dgB 2,mkE3 122 dgD 3] 4)
theorem k9 (z:Nat->Nat->Nat):allL [5,4] (q3d 17 dgD 122 112 (q9a 112 121) (mapE [mkE3 110 dgB 2] 3)) z=([],repN (some (li 0,[some (q9a 112 121),some (mapE [mkE3 110 dgB 2,mkE3 122 dgD 3] 4)])) 1):=by kernel_rfl
theorem K9_ok:K9:=EndsIn.of k9
end
end Go.Proofs.YthkgcljngalafaaDoor.Aes
