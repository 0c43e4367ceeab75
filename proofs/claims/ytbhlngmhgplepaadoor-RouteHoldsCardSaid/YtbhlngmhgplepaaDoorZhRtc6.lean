/-
  Routes: the zhe examples hold.
-/
import Derived.Test.YtbhlngmhgplepaaDoorPh8
namespace Go.Proofs.YtbhlngmhgplepaaDoor.Aes
noncomputable section
open Go.Sim
open Go.Proofs
variable {α:Type}
set_option maxRecDepth 1000000
theorem jhj (z:Nat->Nat->Nat):zcL [] (qka jqd 100000 8 [] []) [] z=([],some (.bool (.lit true),[])):=by kernel_rfl
def jrd (args:List SV) (r:R α):R α:=List.rec (motive:=fun _=>R α) r (fun _ _ _=>.stuck 700) args
theorem qi8 {args:List SV} {r:R α} {φ:α->Prop} (h:args=[]->r.Sat φ):(jrd args r).Sat φ:=by
 cases args with
 | nil=>exact h rfl
 | cons=>trivial
def exS:za3:=fun args _ _=>jrd args (.ok ⟨.bool (.lit true),[],[]⟩)
theorem exOK:qeb Tryd.prog 8 exS:=by
 intro glob O w0 β H w base args vs hH hG ha;refine qi8 fun hv => ?_
 rw [hv] at ha;exact j1a jtf 100000 hH ⟨[],[],[]⟩ (by intro g j hg; cases hg) ha (qkd rfl) [] (by simp) (by simp) (js:=[]) (fun z=>⟨[],[],jhj z,qaa⟩) fun H2 _=>jmd rfl rfl rfl
end
end Go.Proofs.YtbhlngmhgplepaaDoor.Aes
