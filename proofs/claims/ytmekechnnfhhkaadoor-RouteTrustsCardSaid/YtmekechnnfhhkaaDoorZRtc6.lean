/-
  Routes: the chapter's examples hold.
-/
import Derived.Test.YtmekechnnfhhkaaDoorPk7
namespace Go.Proofs.YtmekechnnfhhkaaDoor.Aes
open Go.Sim
open Go.Proofs
variable {α : Type}

set_option maxRecDepth 1000000
theorem kn_run (z : Nat → Nat → Nat) : outZ [] (callSim cfgR2 100000 5 [] []) [] z = ([], some (.bool (.lit true), [])) := by kernel_rfl
noncomputable def args0 (args : List SV) (r : R α) : R α := List.rec (motive := fun _ => R α) r (fun _ _ _ => .stuck 700) args
theorem args0_sat {args : List SV} {r : R α} {φ : α → Prop} (h : args = [] → r.Sat φ) : (args0 args r).Sat φ := by
  cases args with
  | nil => exact h rfl
  | cons => trivial
noncomputable def exS : Summ := fun args _ _ => args0 args (.ok ⟨.bool (.lit true), [], []⟩)
theorem exOK : SumOK Tryd.prog 5 exS := by
  intro glob O w0 β H w base args vs hH hG ha
  refine args0_sat fun hv => ?_
  rw [hv] at ha
  exact sum_outW cfgR2OK 100000 hH ⟨[], [], []⟩ (by intro g j hg; cases hg) ha (fits0 rfl) [] (by simp) (by simp) (js := []) (fun z => ⟨[], [], kn_run z, all_nil⟩) fun H2 _ => ends0 rfl rfl rfl
end Go.Proofs.YtmekechnnfhhkaaDoor.Aes

