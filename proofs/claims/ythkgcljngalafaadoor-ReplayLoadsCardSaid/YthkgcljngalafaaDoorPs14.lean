/-
  Texts behind one another: the symbolic simulator and what it is told of the program.
-/
import Derived.Test.YthkgcljngalafaaDoorZsRpl3
import Derived.Test.YthkgcljngalafaaDoorPs7
import Derived.Test.YthkgcljngalafaaDoorPs13
namespace Go.Proofs.YthkgcljngalafaaDoor.Aes
noncomputable section
open Go.Sim
open Go.Proofs
variable {α:Type}
set_option maxRecDepth 1000000
theorem qjv (z:Nat->Nat->Nat):allL [] (qfa qw4 20000 7 [] (shaH [])) z =
  ((0+1<=1)::(0+1<=1/\1<=1099511627776)::(0+1<=1/\1<=1099511627776)::(0+1<=1/\1<=1099511627776)::(0+1<=1/\1<=1099511627776)::[K1,K2,K3,K4,K5,K6,K7,K8,K9],repN (some (.bool (.lit true),[])) 2):=by kernel_rfl
theorem known_ob:(qfa qw4 20000 7 [] (shaH [])).Ob (endP [] (.bool (.lit true)) []) fun _=>False:=by
 refine qz0 (fun z p hp => ?_) fun z r hr => ?_
 . rw [qjv z] at hp
   simp only [List.mem_cons,List.not_mem_nil,or_false] at hp
   rcases hp with rfl | rfl | rfl | rfl | rfl | rfl | rfl | rfl | rfl | rfl | rfl | rfl | rfl | rfl
   . exact Nat.le_refl _
   . exact ⟨Nat.le_refl _,by omega⟩
   . exact ⟨Nat.le_refl _,by omega⟩
   . exact ⟨Nat.le_refl _,by omega⟩
   . exact ⟨Nat.le_refl _,by omega⟩
   . exact K1_ok
   . exact K2_ok
   . exact K3_ok
   . exact K4_ok
   . exact K5_ok
   . exact K6_ok
   . exact K7_ok
   . exact K8_ok
   . exact K9_ok
 . rw [qjv z,q9c] at hr
   exact List.eq_of_mem_replicate hr
def jfd (args:List SV) (r:R α):R α:=List.rec (motive:=fun _=>R α) r (fun _ _ _=>.stuck 700) args
theorem qk8 {args:List SV} {r:R α} {φ:α->Prop} (h:args=[]->r.Sat φ):(jfd args r).Sat φ:=by
 cases args with
 | nil=>exact h rfl
 | cons=>trivial
def exS:Summ:=fun args H _=>jfd args (shaT H (.ok ⟨.bool (.lit true),[],[]⟩))
theorem exOK:SumAt Tryd.prog qxd 7 exS:=by
 intro O w0 β H w base args vs hH hG ha
 refine qk8 fun hv=>q0q fun hT => ?_
 rw [hv] at ha
 exact qgm jdg 20000 hH (shaI [] [] []) (qck hG) ha (Ifc.fits (by simp [shaI]) rfl (qfo hT trivial)) [] (by simp) (by simp) (known_ob.mono fun v H h=>by rw [h.1]; exact qls rfl rfl rfl)
end
noncomputable section
open Go.Sim
open Go.Proofs
variable {α:Type}
set_option maxRecDepth 1000000
section
variable (V:Nat->Value) (N n i:Nat) (z:Nat->Nat->Nat)
end
def nmN (l:List Nat):List Nat:=app [0,1,2,3,4] l
section
variable (f:HashF) (sk lm:Int) (V:Nat->Value) (N n k:Nat) (es:List MapEntry) (c:Nat) (cl fe:Int) (l:List Mk) (i:Nat) (J:Junk) (z:Nat->Nat->Nat)
end
end
end Go.Proofs.YthkgcljngalafaaDoor.Aes
