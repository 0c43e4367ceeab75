/-
  Parent; the law's configuration.
-/
import Derived.Test.YtbhhagnpgkjmgaaDoorPk7
import Derived.Test.YtbhhagnpgkjmgaaDoorZRtc6
namespace Go.Proofs.YtbhhagnpgkjmgaaDoor.Aes
open Go.Sim
open Go.Proofs
variable {α : Type}

set_option maxRecDepth 1000000
noncomputable def paT (x : ByteArray) : Tree := callSim cfgH 20000 6 [.str (.sym x)] []
noncomputable def oneSs (x : ByteArray) : Ss := ⟨strAt [x], 1, 0, 1, false, 1⟩
theorem one_ok (x : ByteArray) : (oneSs x).ok := ⟨Nat.le_refl _, by show (1 : Nat) ≤ _; omega⟩
theorem one_rls {x : ByteArray} : rlsP (oneSs x) ↔ rlmP x := by
  constructor
  · intro h
    exact h 0 (by show (0 : Nat) < 1; omega)
  · intro h i hi
    have hi : i < 1 := hi
    obtain rfl : i = 0 := by omega
    exact h
noncomputable def strI (s : SStr) (n : Int) : Option (SV × List (Option SO)) := some (.tuple [.str s, .int .i64 (.lit n)], [])
theorem pa_bad (x : ByteArray) : outO [] (paT x) [true] = ([(oneSs x).ok, (!cB (rlsP (oneSs x))) = true], strI (.lit nilB) 2) := by kernel_rfl
theorem pa_no (x : ByteArray) : outO [] (paT x) [false, false, true] = ([(oneSs x).ok, (!cB (rlsP (oneSs x))) = false, rlmP x, cutF x = false, decide (((Nat.succ (dep x) : Nat) : Int) < 2) = true], strI (.lit nilB) 9) := by kernel_rfl
theorem pa_yes (x : ByteArray) : outO [] (paT x) [false, true, false] = ([(oneSs x).ok, (!cB (rlsP (oneSs x))) = false, rlmP x, cutF x = true, decide (((Nat.succ (dep x) : Nat) : Int) < 2) = false, 1 < Nat.succ (dep x), 1 < Nat.succ (dep x)], strI (.sym (suf x 1)) 0) := by kernel_rfl
noncomputable def paR (x : ByteArray) : R SumRes := .fork (rlmB x) (.fork (cutF x) (.ok ⟨.tuple [.str (.sym (suf x 1)), .int .i64 (.lit 0)], [], []⟩) (.ok ⟨.tuple [.str (.lit nilB), .int .i64 (.lit 9)], [], []⟩)) (.ok ⟨.tuple [.str (.lit nilB), .int .i64 (.lit 2)], [], []⟩)
noncomputable def paSm : Summ := fun args _ _ => args1 args fun v => optC (strV v) (.stuck 7828) fun x => paR x.den
theorem paOK : SumOK Tryd.prog 6 paSm := by
  intro glob O w0 β H w base args vs hH hG ha
  refine args1_sat fun v hv => optC_only fun x hx => ?_
  rw [hv, strV_spec hx] at ha
  have ha := impL_cons (str_imp (t := .sym x.den) rfl) impL_nil _ _ ha
  generalize x.den = x at ha ⊢
  have go : ∀ {ds ps v}, outO [] (paT x) ds = (ps, some (v, [])) → (∀ p ∈ ps, p) → v.uses (fun _ => false) = true → (∀ f, v.ren f = v) → SumSem Tryd.prog H β w base 6 vs ⟨v, [], []⟩ := fun hr hp hu hren => sum_runQ cfgHOK 20000 hH ⟨[], [], [.str (.sym x)]⟩ (by intro g j hg; cases hg) ha (Ifc.fitsQ (by simp) rfl trivial) [] (by simp) (by simp) (outO_ob hr hp fun H2 _ => ⟨by rw [hren]; exact .refl _, hu, trivial, trivial⟩)
  refine ⟨fun h => ⟨fun hc => ?_, fun hc => ?_⟩, fun h => ?_⟩
  · have h : rlmP x := cB_iff.1 h
    have := dep_pos hc
    exact go (pa_yes x) (all_cons (one_ok x) (all_cons (cB_yes (one_rls.2 h)) (all_cons h (all_cons hc (all_cons (decide_eq_false (by omega)) (all_cons (by omega) (all_cons (by omega) all_nil))))))) rfl (fun _ => rfl)
  · have h : rlmP x := cB_iff.1 h
    have := dep_zero hc
    exact go (pa_no x) (all_cons (one_ok x) (all_cons (cB_yes (one_rls.2 h)) (all_cons h (all_cons hc (all_cons (decide_eq_true (by omega)) all_nil))))) rfl (fun _ => rfl)
  · have h : ¬ rlmP x := fun hr => by rw [rlmB_true hr] at h; cases h
    exact go (pa_bad x) (all_cons (one_ok x) (all_cons (cB_not fun hr => h (one_rls.1 hr)) all_nil)) rfl (fun _ => rfl)
noncomputable def rlW : List (FuncId × Summ) := (5, exS) :: (4, fewS) :: (14, saS) :: (6, paSm) :: (11, trPm) :: (12, trQm) :: rlT
theorem rlWOK : ∀ y ∈ rlW, SumOK Tryd.prog y.1 y.2 := allC exOK (allC fewOK (allC saOK (allC paOK (allC trPOK (allC trQOK rlTOK)))))
noncomputable def cfgRW : Cfg := cfgOf (sumsOf rlW)
theorem cfgRWOK : CfgOK cfgRW := sumsOf_ok rlWOK
end Go.Proofs.YtbhhagnpgkjmgaaDoor.Aes

