/-
  Routes: the zhF examples hold.
-/
import Derived.Test.YtbhlngmhgplepaaDoorPq8
namespace Go.Proofs.YtbhlngmhgplepaaDoor.Aes
noncomputable section
open Go.Sim
open Go.Proofs
variable {α:Type}
set_option maxRecDepth 1000000
theorem j8k (z:Nat->Nat->Nat):zc1 [] (qla jie 100000 8 [] []) [] z=([],some (.bool (.lit true),[])):=by kernel_rfl
def jje (args:List SV) (r:R α):R α:=List.rec (motive:=fun _=>R α) r (fun _ _ _=>.stuck 700) args
theorem q58 {args:List SV} {r:R α} {φ:α->Prop} (h:args=[]->r.Sat φ):(jje args r).Sat φ:=by
 cases args with
 | nil=>exact h rfl
 | cons=>trivial
def exS:zaR:=fun args _ _=>jje args (.ok ⟨.bool (.lit true),[],[]⟩)
theorem exOK:q2a Tryd.prog 8 exS:=by
 intro glob O w0 β H w base args vs hH hG ha;refine q58 fun hv => ?_
 rw [hv] at ha;exact jpb jng 100000 hH ⟨[],[],[]⟩ (by intro g j hg; cases hg) ha (qfd rfl) [] (by simp) (by simp) (js:=[]) (fun z=>⟨[],[],j8k z,qaa⟩) fun H2 _=>jee rfl rfl rfl
end
end Go.Proofs.YtbhlngmhgplepaaDoor.Aes
