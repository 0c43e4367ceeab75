/-
  AesKeys: the law's own runs.
-/
import Derived.Test.YtbgpdpeafdoomaaDoorSub1
import Derived.Test.YtbgpdpeafdoomaaDoorLib1
import Derived.Test.YtbgpdpeafdoomaaDoorBlk1
namespace Go.Proofs.YtbgpdpeafdoomaaDoor.Aes
open Go.Sim
open Go.Proofs
open Go.RowKit

noncomputable def cfgK : Cfg := cfgG globR (sumsOf [(11, newS), (13, rwordsS), (10, knownS), (23, cloneS)])
theorem cfgKOK : CfgOK cfgK := sumsG_ok (allA (newOK _) (allA rwordsOK (allA (knownOK _) (allA (cloneOK _) (by simp)))))
/-- the i-th round key, as the law compares it -/
noncomputable def keyEq (X : Nat → BitVec 8) (i : Nat) : Prop := (!decide (strB (takeN (dropN (keysL (blk X)) (16 * i)) 16) = strB (takeN (dropN (keysL (block16 X 0)) (16 * i)) 16))) = false
theorem keyEq_true (X : Nat → BitVec 8) (i : Nat) : keyEq X i := by
  unfold keyEq
  rw [blk_eq]; simp
/-- the first loop, left behind j keys -/
noncomputable def turn0 (X : Nat → BitVec 8) (z : Int) (j n : Nat) : Nat → List Prop :=
  Nat.rec (motive := fun _ => Nat → List Prop) (fun _ => []) (fun _ ih i => (0 + 16 ≤ 16) :: keyEq X i :: (decide (Int.ofNat (i + 1) ≥ z) = Nat.beq (i + 1) j) :: boolC (Nat.beq (i + 1) j) [] (ih (Nat.succ i))) n
noncomputable def turn1 (X : Nat → BitVec 8) (n : Nat) : Nat → List Prop := Nat.rec (motive := fun _ => Nat → List Prop) (fun _ => []) (fun _ ih i => (0 + 16 ≤ 16) :: keyEq X i :: ih (Nat.succ i)) n
noncomputable def dirs0 (j n : Nat) : Nat → List Bool := Nat.rec (motive := fun _ => Nat → List Bool) (fun _ => []) (fun _ ih i => false :: Nat.beq (i + 1) j :: boolC (Nat.beq (i + 1) j) [] (ih (Nat.succ i))) n
noncomputable def dirs1 (n : Nat) : List Bool := repN false n
theorem turn0_all (X : Nat → BitVec 8) (z : Int) (j : Nat) : ∀ (n i : Nat), (∀ k, i ≤ k → k < i + n → k < j → decide (Int.ofNat (k + 1) ≥ z) = Nat.beq (k + 1) j) → i < j → ∀ p ∈ turn0 X z j n i, p
  | 0, i, _, _ => fun _ hp => by cases hp
  | n + 1, i, h, hij => by
    refine all_cons (by omega) (all_cons (keyEq_true X i) (all_cons (h i (Nat.le_refl _) (by omega) hij) ?_))
    cases hb : Nat.beq (i + 1) j with
    | true => exact all_nil
    | false => exact turn0_all X z j n (i + 1) (fun k h1 h2 h3 => h k (by omega) (by omega) h3) (by have := beq_ne hb; omega)
theorem turn1_all (X : Nat → BitVec 8) : ∀ (n i : Nat), ∀ p ∈ turn1 X n i, p
  | 0, _ => fun _ hp => by cases hp
  | n + 1, i => all_cons (by omega) (all_cons (keyEq_true X i) (turn1_all X n (i + 1)))
theorem key_main (X : Nat → BitVec 8) (n c : Nat) (z : Int) (j : Nat) (h1 : 1 ≤ j) (h2 : j ≤ 12) : outO [] (callSim cfgK 20000 4 [.slice ⟨1, .lit 0⟩ (.lit 16) (.sym c), .int .i64 (.sym z)] [tabR, rowF X n]) (app (dirs0 j 11 0) (dirs1 11)) =
    (app [0 + 16 ≤ n, 0 + 16 ≤ 16, IsB (byteF X), 0 + 16 ≤ n] (app (turn0 X z j 11 0) (turn1 X 11 0)), some (.bool (.lit true), [])) := by
  have h : j = 1 ∨ j = 2 ∨ j = 3 ∨ j = 4 ∨ j = 5 ∨ j = 6 ∨ j = 7 ∨ j = 8 ∨ j = 9 ∨ j = 10 ∨ j = 11 ∨ j = 12 := by omega
  rcases h with rfl | rfl | rfl | rfl | rfl | rfl | rfl | rfl | rfl | rfl | rfl | rfl <;> (show (_ : List Prop × Option (SV × List (Option SO))) = _) <;> kernel_rfl
theorem key_long (X : Nat → BitVec 8) (n c k : Nat) (z : Int) : outO [] (callSim cfgK 20000 4 [.slice ⟨1, .lit 0⟩ (.sym k) (.sym c), .int .i64 (.sym z)] [tabR, rowF X n]) [true] = ([decide ((k : Int) > 40) = true], some (.bool (.lit true), [])) := by kernel_rfl
theorem key_short (X : Nat → BitVec 8) (n c k : Nat) (z : Int) : outO [] (callSim cfgK 20000 4 [.slice ⟨1, .lit 0⟩ (.sym k) (.sym c), .int .i64 (.sym z)] [tabR, rowF X n]) [false, false, true] =
    ([decide ((k : Int) > 40) = false, 0 + k ≤ n, roomy k 1 ∧ 1 = 1 ∧ 0 = 0 ∧ 0 = 0, decide (k = 16) = false, ((k : Int) != 16) = true], some (.bool (.lit true), [])) := by kernel_rfl
theorem key_nil (z : Int) : outO [] (callSim cfgK 20000 4 [.nilSlice, .int .i64 (.sym z)] [tabR]) [] = ([], some (.bool (.lit true), [])) := by kernel_rfl
theorem key_law {w : World} {β : Val} (hH : HeapRel Tryd.prog (fun _ => False) w β [tabR] w) (hG : GlobRel globR β) {a0 : Option Addr} {len0 cap0 : Nat} {X : Nat → BitVec 8} (h0 : ByteRow w a0 len0 cap0 X) (z : Int) :
    Calls Tryd.prog 4 #[.slice a0 len0 cap0, .int .i64 z] w fun e w' => e = .returned (.bool true) ∧ Below w.heap.size w w' := by
  rcases h0 with ⟨rfl, rfl, rfl⟩ | ⟨x, rfl, hsx, hlx, _, hcx⟩
  · exact law_by cfgKOK 20000 hH hG (args := [.nilSlice, .int .i64 (.sym z)]) rfl [] (key_nil z) all_nil
  · obtain ⟨β1, hH1, hG1, hle, hd⟩ := start_row1 hH hG hsx hlx hcx
    by_cases hk : len0 = 16
    · subst hk
      have hd : (SV.slice ⟨1, .lit 0⟩ (.lit 16) (.sym cap0)).den β1 = some (.slice (some x) 16 cap0) := hd
      have hn : 0 + 16 ≤ cap0 := by omega
      have fin : ∀ j, 1 ≤ j → j ≤ 12 → (∀ k : Nat, k < 11 → k < j → decide (Int.ofNat (k + 1) ≥ z) = Nat.beq (k + 1) j) → Calls Tryd.prog 4 #[.slice (some x) 16 cap0, .int .i64 z] w fun e w' => e = .returned (.bool true) ∧ Below w.heap.size w w' := by
        intro j h1 h2 hz
        refine law_by cfgKOK 20000 hH1 hG1 (denL_cons.2 ⟨_, _, hd, denL_cons.2 ⟨_, _, rfl, rfl, rfl⟩, rfl⟩) _ (key_main X cap0 cap0 z j h1 h2) ?_
        exact app_all (all_cons hn (all_cons (by omega) (all_cons (byteF_isB X) (all_cons hn all_nil)))) (app_all (turn0_all X z j 11 0 (fun k _ h3 h4 => hz k (by omega) h4) (by omega)) (turn1_all X 11 0))
      have hcond : ∀ (j k : Nat), ((j : Int) ≥ z) → (∀ k : Nat, k + 1 < j → ¬ (Int.ofNat (k + 1) ≥ z)) → k < j → decide (Int.ofNat (k + 1) ≥ z) = Nat.beq (k + 1) j := by
        intro j k h1 h2 h3
        by_cases hkj : k + 1 = j
        · subst hkj
          rw [Nat.beq_refl]
          exact decide_eq_true h1
        · have hb : Nat.beq (k + 1) j = false := Bool.eq_false_iff.2 fun h => hkj (beq_spec h)
          rw [hb]
          exact decide_eq_false (h2 k (by omega))
      by_cases hz1 : z ≤ 1
      · exact fin 1 (by omega) (by omega) fun k _ hk => hcond 1 k (by omega) (fun k h => by omega) hk
      · by_cases hz2 : z ≤ 11
        · have hzn : ((z.toNat : Nat) : Int) = z := Int.toNat_of_nonneg (by omega)
          refine fin z.toNat (by omega) (by omega) fun k _ hk => hcond z.toNat k (by omega) (fun k h => ?_) hk
          show ¬ ((k + 1 : Nat) : Int) ≥ z
          omega
        · refine fin 12 (by omega) (by omega) fun k hk11 hk => ?_
          have hb : Nat.beq (k + 1) 12 = false := Bool.eq_false_iff.2 fun h => by have := beq_spec h; omega
          rw [hb]
          refine decide_eq_false ?_
          show ¬ ((k + 1 : Nat) : Int) ≥ z
          omega
    · by_cases hk4 : (len0 : Int) > 40
      · exact law_by cfgKOK 20000 hH1 hG1 (denL_cons.2 ⟨_, _, hd, denL_cons.2 ⟨_, _, rfl, rfl, rfl⟩, rfl⟩) [true] (key_long X cap0 cap0 len0 z) (all_cons (decide_eq_true hk4) all_nil)
      · have hro : roomy len0 1 ∧ 1 = 1 ∧ 0 = 0 ∧ 0 = 0 := ⟨⟨by omega, by omega⟩, rfl, rfl, rfl⟩
        have hne : ((len0 : Int) != 16) = true := by rw [bne_iff_ne]; omega
        exact law_by cfgKOK 20000 hH1 hG1 (denL_cons.2 ⟨_, _, hd, denL_cons.2 ⟨_, _, rfl, rfl, rfl⟩, rfl⟩) [false, false, true] (key_short X cap0 cap0 len0 z)
          (all_cons (decide_eq_false hk4) (all_cons (by omega) (all_cons hro (all_cons (decide_eq_false hk) (all_cons hne all_nil)))))

end Go.Proofs.YtbgpdpeafdoomaaDoor.Aes
