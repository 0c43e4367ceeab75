/-
  Referrals: an entry's names, whatever is drawn.
-/
import Derived.Test.YtoooohgejkebjaaGreatDoorPk8
namespace Go.Proofs.YtoooohgejkebjaaGreatDoor.Aes
open Go.Sim
open Go.Proofs
variable {α : Type}

set_option maxRecDepth 1000000
/-- the directions that take the x-th of m + 1, and what they say -/
noncomputable def dirQ (m : Nat) : Nat → List Bool := Nat.rec (motive := fun _ => Nat → List Bool) (fun _ => []) (fun _ ih x => Nat.rec (motive := fun _ => List Bool) [true] (fun y _ => false :: ih y) x) m
noncomputable def cndQ (v m : Nat) : Nat → Nat → List Prop := Nat.rec (motive := fun _ => Nat → Nat → List Prop) (fun _ _ => []) (fun _ ih j x => Nat.rec (motive := fun _ => List Prop) [decide (v = j) = true] (fun y _ => (decide (v = j) = false) :: ih (Nat.succ j) y) x) m
theorem cndQ_ok (v : Nat) : ∀ (m j : Nat), j ≤ v → ∀ p ∈ cndQ v m j (min (v - j) m), p
  | 0, j, _ => fun p hp => absurd (show p ∈ ([] : List Prop) from hp) (by simp)
  | m + 1, j, h => by
    cases hx : min (v - j) (m + 1) with
    | zero =>
      have : v = j := by omega
      intro p hp
      have hp : p ∈ [decide (v = j) = true] := hp
      simp only [List.mem_singleton] at hp
      subst hp
      exact decide_eq_true this
    | succ y =>
      intro p hp
      have hp : p ∈ (decide (v = j) = false) :: cndQ v m (j + 1) y := hp
      rcases List.mem_cons.1 hp with rfl | hp
      · exact decide_eq_false (by omega)
      · have e : y = min (v - (j + 1)) m := by omega
        rw [e] at hp
        exact cndQ_ok v m (j + 1) (by omega) p hp
theorem mapN_at0 {β : Type} {f g : Nat → β} {k : Nat} (h : mapN f (fromN k 0) = mapN g (fromN k 0)) {l : Nat} (h2 : l < k) : f l = g l := by
  rw [mapN_eq, mapN_eq, fromN_eq, List.map_inj_left] at h
  exact h l (by simp [h2])
/-- what is told of every order is told whatever is drawn -/
theorem orders {γ : Type} {g : SV → List SO → γ} {t : Tree} {y : γ} (N : Nat) (z : Nat → Nat → Nat) (h : mapN (fun k => outG g t (dirQ N k) z) (fromN (N + 1) 0) = mapN (fun k => (cndQ (z 0 0) N 0 k, some y)) (fromN (N + 1) 0)) : ∃ ds ps, outG g t ds z = (ps, some y) ∧ ∀ p ∈ ps, p :=
  ⟨_, _, mapN_at0 h (show min (z 0 0 - 0) N < N + 1 by omega), cndQ_ok (z 0 0) N 0 (Nat.zero_le _)⟩
noncomputable def zi : SV := .int .i64 (.lit 0)
noncomputable def cp (b : Bool) (m n : Nat) : SC := boolC b (.rest m 0) (.lit n)
noncomputable def strQ (l : List UInt8) : SV := .str (.lit ⟨l.toArray⟩)
noncomputable def entA (p a : SV) : List SV := [.agg [p, strQ [82], a, .int .u32 (.lit 0), zi, .nilSlice, strQ [], zi, zi, zi, zi, zi, zi, zi, .nilSlice, .nilSlice, .nilSlice]]
noncomputable def nA1 (b : Bool) : List SV := entA (.slice ⟨2, .lit 0⟩ (.lit 1) (cp b 2 1)) (.slice ⟨1, .lit 0⟩ (.lit 1) (cp b 1 1))
noncomputable def nE1 (b : Bool) : List SO := [.row (.lst [strQ [98]]), .row (.lst [.slice ⟨0, .lit 0⟩ (.lit 1) (cp b 0 1), strQ [82]]), .row (.lst [strQ [97]])]
noncomputable def nA2 (b : Bool) : List SV := entA (.slice ⟨0, .lit 0⟩ (.lit 2) (cp b 0 2)) .nilSlice
noncomputable def nE2 : List SO := [.row (.lst [strQ [107, 114, 98, 116, 103, 116], strQ [83]])]
noncomputable def n1T (b : Bool) : Tree := callSim cfgF2 4000 31 (nA1 b) (nE1 b)
noncomputable def n2T (b : Bool) : Tree := callSim cfgF2 4000 31 (nA2 b) nE2
theorem n1_runs (b : Bool) (m0 m1 m2 base : Nat) (z : Nat → Nat → Nat) : mapN (fun k => outG (endR ⟨[m0, m1, m2], nE1 b, nA1 b⟩ base) (n1T b) (dirQ 224 k) z) (fromN (224 + 1) 0) = mapN (fun k => (cndQ (z 0 0) 224 0 k, some (R.ok (pathR (n1T b) [true] ⟨[m0, m1, m2], nE1 b, nA1 b⟩ base)))) (fromN (224 + 1) 0) := by
  cases b <;> kernel_rfl
theorem n2_runs (b : Bool) (m0 base : Nat) (z : Nat → Nat → Nat) : mapN (fun k => outG (endR ⟨[m0], nE2, nA2 b⟩ base) (n2T b) (dirQ 224 k) z) (fromN (224 + 1) 0) = mapN (fun k => (cndQ (z 0 0) 224 0 k, some (R.ok (pathR (n2T b) [true] ⟨[m0], nE2, nA2 b⟩ base)))) (fromN (224 + 1) 0) := by
  cases b <;> kernel_rfl
theorem n1_told (b : Bool) (base : Nat) (M : List Nat) (h : M.length = (nE1 b).length) (z : Nat → Nat → Nat) : ∃ ds ps, outG (endR ⟨M, nE1 b, nA1 b⟩ base) (n1T b) ds z = (ps, some (R.ok (pathR (n1T b) [true] ⟨M, nE1 b, nA1 b⟩ base))) ∧ ∀ p ∈ ps, p := by
  match M, h with
  | [m0, m1, m2], _ => exact orders 224 z (n1_runs b m0 m1 m2 base z)
theorem n2_told (b : Bool) (base : Nat) (M : List Nat) (h : M.length = nE2.length) (z : Nat → Nat → Nat) : ∃ ds ps, outG (endR ⟨M, nE2, nA2 b⟩ base) (n2T b) ds z = (ps, some (R.ok (pathR (n2T b) [true] ⟨M, nE2, nA2 b⟩ base))) ∧ ∀ p ∈ ps, p := by
  match M, h with
  | [m0], _ => exact orders 224 z (n2_runs b m0 base z)
noncomputable def nmS : Summ := fun args H base => (fun M => toldM true (n1T false) [true] (nA1 false) (nE1 false) (toldM true (n1T true) [true] (nA1 true) (nE1 true) (toldM true (n2T false) [true] (nA2 false) nE2 (toldM true (n2T true) [true] (nA2 true) nE2 (.stuck 7795) args H base M) args H base M) args H base M) args H base M) (reachN H 400 (SV.nmsL args) [])
theorem nmOK : SumOK Tryz.prog 31 nmS := by
  intro glob O w0 β H w base args vs hH hG ha
  exact toldM_sat cfgF2OK (fun _ => rfl) _ (fun M h z => n1_told false base M h z) hH ha (toldM_sat cfgF2OK (fun _ => rfl) _ (fun M h z => n1_told true base M h z) hH ha (toldM_sat cfgF2OK (fun _ => rfl) _ (fun M h z => n2_told false base M h z) hH ha (toldM_sat cfgF2OK (fun _ => rfl) _ (fun M h z => n2_told true base M h z) hH ha trivial)))
end Go.Proofs.YtoooohgejkebjaaGreatDoor.Aes

