/-
  Texts behind one another: the symbolic simulator and what it is told of the program.
-/
import Derived.Test.YtbhhagnpgkjmgaaDoorPk6

/-
  The hierarchical path: the reference's runs.
-/
namespace Go.Proofs.YtbhhagnpgkjmgaaDoor.Aes
open Go.Sim
open Go.Proofs
variable {α : Type}

set_option maxRecDepth 1000000
noncomputable def rhT (st : Option (Nat × Nat)) (x y : ByteArray) : Tree := callSim (cfgH.at st) 20000 9 [.str (.sym x), .str (.sym y)] []
section
variable (x y : ByteArray) (bu bd : Bool) (i k : Nat) (J : Junk)
noncomputable def rhO : Cut := ⟨bareFs (stopOf (rhT (some (1, 3)) x y) [false, true, true]).frames [[(6, upV 0 bu x), (7, upV 1 bd y), (8, .int .i64 (.sym i))]], [.ent (upE bu x), .ent (upE bd y)]⟩
noncomputable def rhI : Cut := ⟨bareFs (stopOf (rhT (some (1, 7)) x y) [false, true, true, true]).frames [[(6, upV 0 bu x), (7, upV 1 bd y), (8, .int .i64 (.sym i)), (9, .int .i64 (.sym k))]], [.ent (upE bu x), .ent (upE bd y)]⟩
noncomputable def rhOS (st : Option (Nat × Nat)) : Tree := sim1 (cfgH.at st) 20000 ((rhO x y bu bd i).fill J)
noncomputable def rhIS (st : Option (Nat × Nat)) : Tree := sim1 (cfgH.at st) 20000 ((rhI x y bu bd i k).fill J)
variable (m : Int) (V : Nat → Value) (n : Nat) (z : Nat → Nat → Nat)
noncomputable def rhC : Cut := ⟨bareFs (stopOf (rhIS x y bu bd i k heJ (some (1, 12))) [true, false, false]).frames [[(7, upV 1 bd y), (10, .slice ⟨0, .lit 0⟩ (.sym n) (.rest 0 0)), (11, .int .i64 (.sym m))]], [.ent (.own (.raw V (n * 1)) false 9), .ent (upE bd y)]⟩
noncomputable def rhCS (st : Option (Nat × Nat)) : Tree := sim1 (cfgH.at st) 20000 ((rhC x y bu bd i k m V n).fill J)
noncomputable def rhN : List Nat := [0, 1]
noncomputable def rhM : List Nat := [3, 1]
theorem rh_bad : outO [] (rhT none x y) [true] = ([(twoSs x y).ok ∧ ∀ j, j < 2 → ((twoSs x y).at j).size ≤ 9223372036854775807, (!cB (rlsP (twoSs x y))) = true], some (.tuple [.nilSlice, .int .i64 (.lit 2)], [])) := by kernel_rfl
theorem rh_init : outL [] (rhO x y bu bd 0) [1, 2] (rhT (some (1, 3)) x y) [false, bu, bd] z = ([(twoSs x y).ok ∧ ∀ j, j < 2 → ((twoSs x y).at j).size ≤ 9223372036854775807, (!cB (rlsP (twoSs x y))) = false, rlmP x, cutF x = bu, rlmP y, cutF y = bd], some (.inr (modSeen [(0, 8, .int .i64 (.lit 0))] [] (seenC [1, 2] 3 (rhO x y bu bd 0))))) := by cases bu <;> cases bd <;> kernel_rfl
theorem rh_in : outL [] (rhI x y bu bd i 0) rhN (rhOS x y bu bd i J (some (1, 7))) [true] z = ([decide ((i : Int) < (Nat.succ (dep x) : Nat)) = true], some (.inr (modSeen [(0, 9, .int .i64 (.lit 0))] [] (seenC rhN 2 (rhI x y bu bd i 0))))) := by cases bu <;> cases bd <;> kernel_rfl
theorem rh_none : outL [] (rhO x y bu bd i) rhN (rhOS x y bu bd i J none) [false] z = ([decide ((i : Int) < (Nat.succ (dep x) : Nat)) = false], some (.inl (.tuple [.nilSlice, .int .i64 (.lit 9)], []))) := by cases bu <;> cases bd <;> kernel_rfl
noncomputable def cmC (t : List Prop) : List Prop := (decide ((k : Int) < (Nat.succ (dep y) : Nat)) = true) :: ((0 : Int) ≤ (i : Int) ∧ (i : Int) < (Nat.succ (dep x) : Nat)) :: (0 + i * 1 < Nat.succ (dep x)) :: ((0 : Int) ≤ (k : Int) ∧ (k : Int) < (Nat.succ (dep y) : Nat)) :: (0 + k * 1 < Nat.succ (dep y)) :: t
theorem rh_next : outL [] (rhI x y bu bd i (k + 1)) rhN (rhIS x y bu bd i k J (some (1, 7))) [true, true] z = (cmC x y i k [(!decide (suf x (0 + i * 1) = suf y (0 + k * 1))) = true, inI64 ((k : Int) + 1)], some (.inr (seenC rhN 2 (rhI x y bu bd i (k + 1))))) := by cases bu <;> cases bd <;> kernel_rfl
theorem rh_out : outL [] (rhO x y bu bd (i + 1)) rhN (rhIS x y bu bd i k J (some (1, 3))) [false] z = ([decide ((k : Int) < (Nat.succ (dep y) : Nat)) = false, inI64 ((i : Int) + 1)], some (.inr (seenC rhN 2 (rhO x y bu bd (i + 1))))) := by cases bu <;> cases bd <;> kernel_rfl
theorem rh_found : outL [] (rhC x y bu bd i k ((k : Int) - 1) V (n1 i)) rhM (rhIS x y bu bd i k J (some (1, 12))) [true, false, false] z = (cmC x y i k [(!decide (suf x (0 + i * 1) = suf y (0 + k * 1))) = false, inI64 ((i : Int) + 1), 0 ≤ (i : Int) + 1 ∧ (i : Int) + 1 ≤ (Nat.succ (dep x) : Nat), 0 + n1 i ≤ Nat.succ (dep x), decide (n1 i = 0) = false, (n1 i * 16 < 140737488355328 ∧ n1 i < 140737488355328) ∧ 1 = 1, inI64 ((k : Int) - 1)], some (.inr (modSeen [] [(0, .ent (.own (.fn (fun j => strF (suf x) (0 + j)) (n1 i)) false 9))] (seenC rhM 4 (rhC x y bu bd i k ((k : Int) - 1) V (n1 i)))))) := by cases bu <;> cases bd <;> kernel_rfl
noncomputable def gdC (t : List Prop) : List Prop := (decide (m ≥ 0) = true) :: (0 ≤ m ∧ m < (Nat.succ (dep y) : Nat)) :: (0 + m.toNat * 1 < Nat.succ (dep y)) :: (1 ≤ 1) :: t
theorem rh_C1 : outL [] (rhC x y bu bd i k (m - 1) (addV V n (suf y (0 + m.toNat * 1))) (n + 1)) rhM (rhCS x y bu bd i k J m V n (some (1, 12))) [true] z = (gdC y m [0 + n * 1 ≤ n * 1, ((n + 1) * 16 < 140737488355328 ∧ n + 1 < 140737488355328) ∧ ∀ j, j < 1 → (atV [Value.string (suf y (0 + m.toNat * 1))] (0 + j)).oneCell' = true, inI64 (m - 1)], some (.inr (seenC rhM 4 (rhC x y bu bd i k (m - 1) (addV V n (suf y (0 + m.toNat * 1))) (n + 1))))) := by cases bu <;> cases bd <;> kernel_rfl
theorem rh_C0 : outL [0] (rhC x y bu bd i k m V n) rhN (rhCS x y bu bd i k J m V n none) [false] z = ([decide (m ≥ 0) = false], some (.inl (.tuple [.slice ⟨0, .lit 0⟩ (.sym n) (.rest 0 0), .int .i64 (.lit 0)], [some (.own (.raw V (n * 1)) false 9)]))) := by cases bu <;> cases bd <;> kernel_rfl
theorem rh_n0 : boolC (namesOK 0 [1, 2] (rhO x y bu bd 0) (rhO x y bu bd 0)) (allN noLoopE (rhO x y bu bd 0).heap) false = true := by cases bu <;> cases bd <;> kernel_rfl
theorem rh_nO : boolC (namesOK 0 rhN (rhO x y bu bd i) (rhO x y bu bd i)) (allN noLoopE (rhO x y bu bd i).heap) false = true := by cases bu <;> cases bd <;> kernel_rfl
theorem rh_nI : boolC (namesOK 0 rhN (rhI x y bu bd i k) (rhI x y bu bd i k)) (allN noLoopE (rhI x y bu bd i k).heap) false = true := by cases bu <;> cases bd <;> kernel_rfl
theorem rh_nC : boolC (namesOK 0 rhM (rhC x y bu bd i k m V n) (rhC x y bu bd i k m V n)) (allN noLoopE (rhC x y bu bd i k m V n).heap) false = true := by cases bu <;> cases bd <;> kernel_rfl
theorem rh_tO : (((rhO x y bu bd i).frames[0]?).bind fun p => p.tmps[8]?) = some (some (.int .i64 (.sym i))) := by cases bu <;> cases bd <;> kernel_rfl
theorem rh_tI : (((rhI x y bu bd i k).frames[0]?).bind fun p => p.tmps[9]?) = some (some (.int .i64 (.sym k))) := by cases bu <;> cases bd <;> kernel_rfl
theorem rh_hC : (rhC x y bu bd i k m V n).heap[0]? = some (.ent (.own (.raw V (n * 1)) false 9)) := by cases bu <;> cases bd <;> kernel_rfl
end
/- What comes of it. -/
def rhD (x y : ByteArray) (v : SV) (H : List SO) : Prop :=
  (comB x y = false ∧ v = .tuple [.nilSlice, .int .i64 (.lit 9)]) ∨
  (comB x y = true ∧ ∃ V, v = .tuple [.slice ⟨0, .lit 0⟩ (.sym (hieN x y)) (.rest 0 0), .int .i64 (.lit 0)] ∧ H[0]? = some (.own (.raw V (hieN x y * 1)) false 9) ∧ ∀ j, j < hieN x y → V j = .string (hieS x y j))
inductive RhK where
  | O (i : Nat)
  | I (i k : Nat)
  | C (i k : Nat) (m : Int) (V : Nat → Value) (n : Nat)
noncomputable def rhK (x y : ByteArray) (bu bd : Bool) : RhK → Cut
  | .O i => rhO x y bu bd i
  | .I i k => rhI x y bu bd i k
  | .C i k m V n => rhC x y bu bd i k m V n
def rhQ (x y : ByteArray) : RhK → Prop
  | .O i => i ≤ dep x + 1 ∧ ∀ j, j < i → ¬ hasM x y j
  | .I i k => i ≤ dep x ∧ (∀ j, j < i → ¬ hasM x y j) ∧ k ≤ dep y + 1 ∧ ∀ j, j < k → suf y j ≠ suf x i
  | .C i k m V n => i ≤ dep x ∧ hasM x y i ∧ (∀ j, j < i → ¬ hasM x y j) ∧ k = comK x y i ∧ ∃ t, t ≤ k ∧ m = (k : Int) - 1 - t ∧ n = i + 1 + t ∧ ∀ j, j < n → V j = .string (hieG x y i k j)
noncomputable def rhMu (x _y : ByteArray) : RhK → Nat
  | .O i => (dep x + 1 - i) * 1000 + 500
  | .I i k => (dep x + 1 - i) * 1000 + 400 - k
  | .C _ _ m _ _ => (m + 1).toNat
theorem comK_is {x y : ByteArray} {i k : Nat} (hk : k ≤ dep y) (he : suf y k = suf x i) (hm : ∀ j, j < k → suf y j ≠ suf x i) : comK x y i = k := by
  unfold comK
  rw [List.find?_range_eq_some.2 ⟨cB_iff.2 he, List.mem_range.2 (by omega), fun j hj => by rw [cB_false (hm j hj)]; rfl⟩]
  rfl
theorem fn_raw {F : Nat → SV} {V : Nat → Value} {n : Nat} (h : ∀ j, j < n → ∀ γ, (F j).den γ = some (V j)) : (Cells.fn F n).Imp (.raw V (n * 1)) := fun γ vs hv => by
  obtain ⟨h1, h2⟩ : vs.length = n ∧ ∀ (i : Nat) (x : Value), vs[i]? = some x → (F i).den γ = some x := hv
  refine ⟨by omega, fun i x hx => ?_⟩
  have hi : i < vs.length := (List.getElem?_eq_some_iff.1 hx).1
  have := h2 i x hx
  rw [h i (by omega) γ] at this
  exact (Option.some.inj this).symm
theorem rh_runs {x y : ByteArray} (hx : rlmP x) (hy : rlmP y) : Runs cfgH 9 [.str (.sym x), .str (.sym y)] [] (rhD x y) := by
  have hdx : dep x + 1 ≤ 16 := (dep_all 16 x hx hx.2.1).1
  have hdy : dep y + 1 ≤ 16 := (dep_all 16 y hy hy.2.1).1
  have hxs := hx.2.1
  have hys := hy.2.1
  have hok : (twoSs x y).ok ∧ ∀ j, j < 2 → ((twoSs x y).at j).size ≤ 9223372036854775807 := ⟨two_ok x y, fun j hj => by
    rcases (show j = 0 ∨ j = 1 by omega) with rfl | rfl
    · show x.size ≤ _; omega
    · show y.size ≤ _; omega⟩
  have hB : (!cB (rlsP (twoSs x y))) = false := by rw [cB_true (two_rls.2 ⟨hx, hy⟩)]; rfl
  refine runs_by cfgHOK (rhK x y (cutF x) (cutF y)) (rhQ x y) (rhMu x y) (fun g nm hg => by cases hg) ?_ fun a ha J => ?_
  · refine to_startM (some (1, 3)) 20000 (RhK.O 0) ⟨Nat.zero_le _, fun j hj => by omega⟩ (fun z => rh_init x y (cutF x) (cutF y) z) (rh_n0 x y _ _) (fun q hq p u hp hu => ?_) (fun e he => by cases he) (all_cons hok (all_cons hB (all_cons hx (all_cons rfl (all_cons hy (all_cons rfl all_nil))))))
    obtain rfl : q = (0, 8, .int .i64 (.lit 0)) := by simpa using hq
    exact tmp_set (rh_tO x y _ _ 0) hp hu (int_impS rfl)
  cases a with
  | O i =>
    obtain ⟨hi, hno⟩ := ha
    show TurnsTo cfgH _ (rhK x y (cutF x) (cutF y)) _ _ ((rhO x y (cutF x) (cutF y) i).fill J)
    by_cases hin : i ≤ dep x
    · refine to_turnM (some (1, 7)) 20000 (RhK.I i 0) ⟨⟨hin, hno, Nat.zero_le _, fun j hj => by omega⟩, by show (dep x + 1 - i) * 1000 + 400 - 0 < (dep x + 1 - i) * 1000 + 500; omega⟩ (fun z => rh_in x y _ _ i J z) (rh_nI x y _ _ i 0) (fun q hq p u hp hu => ?_) (fun e he => by cases he) (all_cons (decide_eq_true (by omega)) all_nil)
      obtain rfl : q = (0, 9, .int .i64 (.lit 0)) := by simpa using hq
      exact tmp_set (rh_tI x y _ _ i 0) hp hu (int_impS rfl)
    · exact to_end none 20000 (fun z => rh_none x y _ _ i J z) (all_cons (decide_eq_false (by omega)) all_nil) fun H _ => .inl ⟨com_none fun j hj => hno j (by omega), rfl⟩
  | I i k =>
    obtain ⟨hin, hno, hk, hne⟩ := ha
    show TurnsTo cfgH _ (rhK x y (cutF x) (cutF y)) _ _ ((rhI x y (cutF x) (cutF y) i k).fill J)
    have h64 : inI64 ((i : Int) + 1) := ⟨by omega, by omega⟩
    by_cases hkn : k ≤ dep y
    · have hL : ∀ t : List Prop, (∀ p ∈ t, p) → ∀ p ∈ cmC x y i k t, p := fun t ht => all_cons (decide_eq_true (by omega)) (all_cons ⟨by omega, by omega⟩ (all_cons (by omega) (all_cons ⟨by omega, by omega⟩ (all_cons (by omega) ht))))
      have e1 : suf x (0 + i * 1) = suf x i := by rw [Nat.zero_add, Nat.mul_one]
      have e2 : suf y (0 + k * 1) = suf y k := by rw [Nat.zero_add, Nat.mul_one]
      by_cases he : suf y k = suf x i
      · have hm : hasM x y i := ⟨k, hkn, he⟩
        refine to_turnM (some (1, 12)) 20000 (RhK.C i k ((k : Int) - 1) (sufV x) (n1 i)) ⟨⟨hin, hm, hno, (comK_is hkn he hne).symm, 0, Nat.zero_le _, by omega, n1_eq i, fun j hj => ?_⟩, by show ((k : Int) - 1 + 1).toNat < (dep x + 1 - i) * 1000 + 400 - k; omega⟩ (fun z => rh_found x y _ _ i k J _ z) (rh_nC x y _ _ i k _ _ _) (fun q hq => by cases hq) (fun e he E0 hE0 => ?_) (hL _ ?_)
        · rw [n1_eq] at hj
          unfold hieG
          rw [if_pos (by omega)]; rfl
        · obtain rfl : e = (0, .ent (.own (.fn (fun j => strF (suf x) (0 + j)) (n1 i)) false 9)) := by simpa using he
          have hE0 : (rhC x y (cutF x) (cutF y) i k ((k : Int) - 1) (sufV x) (n1 i)).heap[0]? = some E0 := hE0
          rw [rh_hC] at hE0
          cases hE0
          exact ⟨_, rfl, fn_raw fun j _ γ => by rw [Nat.zero_add]; rfl⟩
        · rw [e1, e2, n1_eq]
          exact all_cons (notF he.symm) (all_cons h64 (all_cons ⟨by omega, by omega⟩ (all_cons (by omega) (all_cons (decide_eq_false (by omega)) (all_cons ⟨⟨by omega, by omega⟩, rfl⟩ (all_cons ⟨by omega, by omega⟩ all_nil))))))
      · refine to_turn (some (1, 7)) 20000 (RhK.I i (k + 1)) ⟨⟨hin, hno, by omega, fun j hj => ?_⟩, by show (dep x + 1 - i) * 1000 + 400 - (k + 1) < (dep x + 1 - i) * 1000 + 400 - k; omega⟩ (fun z => rh_next x y _ _ i k J z) (rh_nI x y _ _ i (k + 1)) (hL _ ?_)
        · by_cases c : j < k
          · exact hne j c
          · obtain rfl : j = k := by omega
            exact he
        · rw [e1, e2]
          exact all_cons (notT fun h => he h.symm) (all_cons ⟨by omega, by omega⟩ all_nil)
    · refine to_turn (some (1, 3)) 20000 (RhK.O (i + 1)) ⟨⟨by omega, fun j hj => ?_⟩, by show (dep x + 1 - (i + 1)) * 1000 + 500 < (dep x + 1 - i) * 1000 + 400 - k; omega⟩ (fun z => rh_out x y _ _ i k J z) (rh_nO x y _ _ (i + 1)) (all_cons (decide_eq_false (by omega)) (all_cons h64 all_nil))
      by_cases c : j < i
      · exact hno j c
      · obtain rfl : j = i := by omega
        rintro ⟨q, hq, he⟩
        exact hne q (by omega) he
  | C i k m V n =>
    obtain ⟨hin, hm, hno, hkk, t, ht2, hmt, hn, hV⟩ := ha
    obtain ⟨hc1, hc2⟩ := com_some hin hm hno
    have hk := (comK_le hm).1
    have hck : cK x y = k := by unfold cK; rw [hc2, hkk]
    show TurnsTo cfgH _ (rhK x y (cutF x) (cutF y)) _ _ ((rhC x y (cutF x) (cutF y) i k m V n).fill J)
    by_cases hz : t = k
    · have hnn : hieN x y = n := by unfold hieN; rw [hck, hc2, hn, hz]
      refine to_end none 20000 (fun z => rh_C0 x y _ _ i k J m V n z) (all_cons (decide_eq_false (by omega)) all_nil) fun H hH => .inr ⟨hc1, V, ?_, ?_, ?_⟩
      · rw [hnn]
      · rw [hnn]
        exact (List.cons.inj (show [H[0]?] = [some (.own (.raw V (n * 1)) false 9)] from hH)).1
      · intro j hj
        rw [hnn] at hj
        rw [hV j hj]
        unfold hieS
        rw [hck, hc2]
    · refine to_turn (some (1, 12)) 20000 (RhK.C i k (m - 1) (addV V n (suf y (0 + m.toNat * 1))) (n + 1)) ⟨⟨hin, hm, hno, hkk, t + 1, by omega, by omega, by omega, fun j hj => ?_⟩, by show (m - 1 + 1).toNat < (m + 1).toNat; omega⟩ (fun z => rh_C1 x y _ _ i k J m V n z) (rh_nC x y _ _ i k _ _ _) ?_
      · by_cases c : j < n
        · rw [addV_old c]; exact hV j c
        · obtain rfl : j = n := by omega
          rw [addV_new]
          unfold hieG
          rw [if_neg (by omega), show 0 + m.toNat * 1 = k - (j - i) by omega]
      · exact all_cons (decide_eq_true (by omega)) (all_cons ⟨by omega, by omega⟩ (all_cons (by omega) (all_cons (Nat.le_refl 1) (all_cons (by omega) (all_cons ⟨⟨by omega, by omega⟩, fun j hj => by obtain rfl : j = 0 := (by omega); rfl⟩ (all_cons ⟨by omega, by omega⟩ all_nil))))))
noncomputable def rhiR (base : Nat) (x y : ByteArray) : R SumRes :=
  .fork (rlmB x && rlmB y) (.fork (comB x y) (.ok ⟨tupI (h1V base x y) 0, [], [h1E x y]⟩) (.ok ⟨tupI .nilSlice 9, [], []⟩)) (.need (x.size ≤ 9223372036854775807 ∧ y.size ≤ 9223372036854775807) (.ok ⟨tupI .nilSlice 2, [], []⟩))
noncomputable def rhiSm : Summ := fun args _ base => args2 args fun v w => optC (strV v) (.stuck 7825) fun x => optC (strV w) (.stuck 7825) fun y => rhiR base x.den y.den
theorem rhiOK : SumOK Tryd.prog 9 rhiSm := by
  intro glob O w0 β H w base args vs hH hG ha
  refine args2_sat fun v w' hv => optC_only fun x hx => optC_only fun y hy => ?_
  rw [hv, strV_spec hx, strV_spec hy] at ha
  have ha := impL_cons (str_imp (t := .sym x.den) rfl) (impL_cons (str_imp (t := .sym y.den) rfl) impL_nil) _ _ ha
  generalize x.den = x at ha ⊢
  generalize y.den = y at ha ⊢
  let I : Ifc := ⟨[], [], [.str (.sym x), .str (.sym y)]⟩
  have hF : I.FitsQ H := (fits0 rfl).q
  refine ⟨fun hv => ?_, fun hv => fun hz => ?_⟩
  · obtain ⟨h1, h2⟩ := and_B hv
    have hr := rh_runs h1 h2
    refine ⟨fun hc => ?_, fun hc => ?_⟩
    · refine sum_runsQ (c := cfgH) hH I (by intro g j hg; cases hg) ha hF [0] (by simp [I]) (by simp) (runs_mono hr fun v H h => ?_)
      rcases h with ⟨h, _⟩ | ⟨_, V, rfl, h, hV⟩
      · rw [hc] at h; cases h
      · exact ⟨.refl _, rfl, trivial, ⟨.inl ⟨_, _, _, _, h, trivial, raw_imp hV, rfl⟩, trivial⟩⟩
    · refine sum_runsQ (c := cfgH) hH I (by intro g j hg; cases hg) ha hF [] (by simp [I]) (by simp) (runs_mono hr fun v H h => ?_)
      rcases h with ⟨_, rfl⟩ | ⟨h, _⟩
      · exact ⟨.refl _, rfl, trivial, trivial⟩
      · rw [hc] at h; cases h
  · refine sum_runQ (cfgHOK.at none) 20000 hH I (by intro g j hg; cases hg) ha hF [] (by simp [I]) (by simp) (outO_ob (rh_bad x y) (all_cons ⟨two_ok x y, fun j hj => ?_⟩ (all_cons ?_ all_nil)) fun H2 _ => ⟨.refl _, rfl, trivial, trivial⟩)
    · rcases (show j = 0 ∨ j = 1 by omega) with rfl | rfl
      · exact hz.1
      · exact hz.2
    · rw [cB_false fun h => nand_B hv (two_rls.1 h)]; rfl
end Go.Proofs.YtbhhagnpgkjmgaaDoor.Aes


/-
  The transited list: runs.
-/
namespace Go.Proofs.YtbhhagnpgkjmgaaDoor.Aes
open Go.Sim
open Go.Proofs
variable {α : Type}

set_option maxRecDepth 1000000
noncomputable def natC {β : Type} (n : Nat) (z : β) (f : Nat → β) : β := Nat.rec (motive := fun _ => β) z (fun k _ => f k) n
noncomputable def rlT : List (FuncId × Summ) := (28, inS') :: (29, inS') :: (8, hieSm) :: (9, rhiSm) :: rlH
theorem rlTOK : ∀ y ∈ rlT, SumOK Tryd.prog y.1 y.2 := allC coOK (allC inOK (allC hieOK (allC rhiOK rlHOK)))
noncomputable def cfgT : Cfg := cfgOf (sumsOf rlT)
theorem cfgTOK : CfgOK cfgT := sumsOf_ok rlTOK
section
variable (t : Ss) (k : Nat) (x y o : ByteArray)
noncomputable def trT (v : SV) (H : List SO) : Tree := callSim cfgT 20000 11 [v, .str (.sym x), .str (.sym y), .str (.sym o)] H
noncomputable def rtT (v : SV) (H : List SO) : Tree := callSim cfgT 20000 12 [v, .str (.sym x), .str (.sym y), .str (.sym o)] H
noncomputable def thrSs : Ss := ⟨strAt [x, y, o], 3, 0, 3, false, 3⟩
noncomputable def clSs : Ss := ⟨fun i => t.S (t.o + i), t.n, 0, t.n, true, 0⟩
noncomputable def em0 : Ss := ⟨strAt [], 0, 0, 0, false, 0⟩
/-- four ways: it is put behind; or not, for three reasons -/
noncomputable def apD (a : Nat) : List Bool := natC a [true, true, true] fun a => natC a (repN false 4) fun a => natC a (true :: repN false 5) fun _ => [true, true, false]
noncomputable def apC (u : Ss) (g : List Prop) (a : Nat) (e : List Prop) : List Prop := natC a (((!decide (y = x)) = true) :: ((!decide (y = o)) = true) :: app g (u.ok :: ((!cB (inP u y)) = true) :: e)) fun a => natC a (app (repN ((!decide (y = x)) = false) 4) e) fun a => natC a (((!decide (y = x)) = true) :: app (repN ((!decide (y = o)) = false) 5) e) fun _ => ((!decide (y = x)) = true) :: ((!decide (y = o)) = true) :: app g (u.ok :: ((!cB (inP u y)) = false) :: e)
noncomputable def smV (nm n : Nat) : SV := .slice ⟨nm, .lit 0⟩ (.sym n) (.rest nm 0)
/-- what comes of no elements -/
noncomputable def e0V (a nm : Nat) : SV := natC a (.slice ⟨nm + 2, .lit 0⟩ (.lit 1) (.rest (nm + 2) 0)) fun _ => .slice ⟨nm, .lit 0⟩ (.lit 0) (.lit 0)
noncomputable def e0E (a : Nat) : Option SO := some (natC a (.own (.lst [.str (.sym y)]) false 9) fun _ => .own (.lst []) true 9)
noncomputable def e0M (a nm : Nat) : Nat := natC a (nm + 2) fun _ => nm
/-- of some -/
noncomputable def e1M (a nm : Nat) : Nat := natC a (nm + 2) fun _ => nm
noncomputable def clF : Nat → SV := fun i => strF t.S (t.o + i)
noncomputable def clV : Nat → Value := fun j => optC (valC (clF t j)) undef fun x => x
noncomputable def e1E (a : Nat) : Option SO := some (natC a (.own (.raw (addV (clV t) t.n y) ((t.n + 1) * 1)) false 9) fun _ => .own (.fn (clF t) t.n) false 9)
noncomputable def e1N (a : Nat) : Nat := natC a (t.n + 1) fun _ => t.n
noncomputable def e1C (a : Nat) (e : List Prop) : List Prop := natC a ((1 ≤ 1) :: (0 + t.n * 1 ≤ t.n ∧ ∀ j, j < t.n * 1 → ∃ v, valC (clF t (0 + j)) = some v) :: (((t.n + 1) * 16 < 140737488355328 ∧ t.n + 1 < 140737488355328) ∧ ∀ j, j < 1 → (atV [Value.string y] (0 + j)).oneCell' = true) :: e) fun _ => e
noncomputable def fl0 (g : List Prop) (b : Bool) (e : List Prop) : List Prop := app g ((t.o + t.n ≤ t.N) :: (decide (t.n = 0) = b) :: boolC b (1 = 1) ((t.n * 16 < 140737488355328 ∧ t.n < 140737488355328) ∧ 1 = 1) :: e)
noncomputable def trG : List Prop := [(thrSs x y o).ok, (!cB (rlsP (thrSs x y o))) = false, IsS (strF t.S), (t.pl k).ok, (!cB (rlsP (t.pl k))) = false]
noncomputable def trX : Tree := trT x y o ((t.pl k).val 0) [t.row]
theorem tr_b1 : outO [] (trX t k x y o) (repN true 4) = ((thrSs x y o).ok :: repN ((!cB (rlsP (thrSs x y o))) = true) 4, some (.tuple [.nilSlice, .int .i64 (.lit 2)], [])) := by kernel_rfl
theorem tr_b2 : outO [] (trX t k x y o) [false, true] = ([(thrSs x y o).ok, (!cB (rlsP (thrSs x y o))) = false, IsS (strF t.S), (t.pl k).ok, (!cB (rlsP (t.pl k))) = true], some (.tuple [.nilSlice, .int .i64 (.lit 2)], [])) := by kernel_rfl
theorem tr_0 : mapN (fun a => outO [e0M a 2] (trX t k x y o) (false :: false :: true :: apD a)) (fromN 4 0) = mapN (fun a => (fl0 t (trG t k x y o) true (apC x y o em0 [] a []), some (.tuple [e0V a 2, .int .i64 (.lit 0)], [e0E y a]))) (fromN 4 0) := by kernel_rfl
theorem tr_1 : mapN (fun a => outO [e1M a 3] (trX t k x y o) (false :: false :: false :: app (apD a) [false])) (fromN 4 0) = mapN (fun a => (fl0 t (trG t k x y o) false (apC x y o (clSs t) [IsS (clF t)] a (e1C t y a [decide ((e1N t a : Int) > 16) = false])), some (.tuple [smV (e1M a 3) (e1N t a), .int .i64 (.lit 0)], [e1E t y a]))) (fromN 4 0) := by kernel_rfl
theorem tr_f : mapN (fun a => outO [] (trX t k x y o) (false :: false :: false :: app (apD a) [true])) (fromN 4 0) = mapN (fun a => (fl0 t (trG t k x y o) false (apC x y o (clSs t) [IsS (clF t)] a (e1C t y a [decide ((e1N t a : Int) > 16) = true])), some (.tuple [.nilSlice, .int .i64 (.lit 7)], []))) (fromN 4 0) := by kernel_rfl
def smA (t : Ss) : Prop := t.ok ∧ ∀ i, i < t.n → (t.at i).size ≤ 9223372036854775807
noncomputable def rtG : List Prop := [IsS (strF t.S), smA (t.pl k), (!cB (rlsP (t.pl k))) = false, smA (thrSs x y o), (!cB (rlsP (thrSs x y o))) = false]
noncomputable def rtN : List Prop := [smA nilSs, (!cB (rlsP nilSs)) = false, smA (thrSs x y o), (!cB (rlsP (thrSs x y o))) = false]
noncomputable def rtX : Tree := rtT x y o ((t.pl k).val 0) [t.row]
noncomputable def rtZ : Tree := rtT x y o .nilSlice []
noncomputable def errT (n : Int) : Option (SV × List (Option SO)) := some (.tuple [.nilSlice, .int .i64 (.lit n)], [])
theorem rt_b1 : outO [] (rtX t k x y o) (repN true 7) = (IsS (strF t.S) :: smA (t.pl k) :: repN ((!cB (rlsP (t.pl k))) = true) 7, errT 2) := by kernel_rfl
theorem rt_b2 : outO [] (rtX t k x y o) [false, true] = ([IsS (strF t.S), smA (t.pl k), (!cB (rlsP (t.pl k))) = false, smA (thrSs x y o), (!cB (rlsP (thrSs x y o))) = true], errT 2) := by kernel_rfl
theorem rt_0 : mapN (fun a => outO [e0M a 2] (rtX t k x y o) (false :: false :: true :: apD a)) (fromN 4 0) = mapN (fun a => (fl0 t (rtG t k x y o) true (apC x y o (t.pl k) [IsS (strF t.S)] a []), some (.tuple [e0V a 2, .int .i64 (.lit 0)], [e0E y a]))) (fromN 4 0) := by kernel_rfl
theorem rt_1 : mapN (fun a => outO [e1M a 3] (rtX t k x y o) (false :: false :: false :: app (apD a) [false])) (fromN 4 0) = mapN (fun a => (fl0 t (rtG t k x y o) false (apC x y o (t.pl k) [IsS (strF t.S)] a (e1C t y a [decide ((e1N t a : Int) > 16) = false])), some (.tuple [smV (e1M a 3) (e1N t a), .int .i64 (.lit 0)], [e1E t y a]))) (fromN 4 0) := by kernel_rfl
theorem rt_f : mapN (fun a => outO [] (rtX t k x y o) (false :: false :: false :: app (apD a) [true])) (fromN 4 0) = mapN (fun a => (fl0 t (rtG t k x y o) false (apC x y o (t.pl k) [IsS (strF t.S)] a (e1C t y a [decide ((e1N t a : Int) > 16) = true])), errT 7)) (fromN 4 0) := by kernel_rfl
theorem rz_b2 : outO [] (rtZ x y o) [false, true] = ([smA nilSs, (!cB (rlsP nilSs)) = false, smA (thrSs x y o), (!cB (rlsP (thrSs x y o))) = true], errT 2) := by kernel_rfl
theorem rz_0 : mapN (fun a => outO [e0M a 1] (rtZ x y o) (false :: false :: apD a)) (fromN 4 0) = mapN (fun a => (app (rtN x y o) (apC x y o nilSs [] a []), some (.tuple [e0V a 1, .int .i64 (.lit 0)], [e0E y a]))) (fromN 4 0) := by kernel_rfl
end
end Go.Proofs.YtbhhagnpgkjmgaaDoor.Aes


/-
  The transited list: the summaries.
-/
namespace Go.Proofs.YtbhhagnpgkjmgaaDoor.Aes
open Go.Sim
open Go.Proofs
variable {α : Type}

set_option maxRecDepth 1000000
noncomputable def okT (t : Ss) (x y o : ByteArray) : Bool := cB (rlsP t ∧ rlmP x ∧ rlmP y ∧ rlmP o)
noncomputable def apB (t : Ss) (x y o : ByteArray) : Bool := cB (y ≠ x ∧ y ≠ o ∧ ¬ inP t y)
noncomputable def addS (t : Ss) (y : ByteArray) (i : Nat) : ByteArray := if i < t.n then t.at i else y
noncomputable def trN (t : Ss) (x y o : ByteArray) : Nat := boolC (apB t x y o) (t.n + 1) t.n
noncomputable def erR (n : Int) : R SumRes := .ok ⟨tupI .nilSlice n, [], []⟩
noncomputable def liR (base n : Nat) (S : Nat → ByteArray) : R SumRes := .ok ⟨tupI (smV base n) 0, [], [.own (.fn (strF S) n) false 9]⟩
noncomputable def emR (base : Nat) : R SumRes := .ok ⟨tupI (.slice ⟨base, .lit 0⟩ (.lit 0) (.lit 0)) 0, [], [.own (.lst []) true 9]⟩
def trOk (t : Ss) (x y o : ByteArray) : Prop := smA t ∧ x.size ≤ 9223372036854775807 ∧ y.size ≤ 9223372036854775807 ∧ o.size ≤ 9223372036854775807
noncomputable def trR (base : Nat) (t : Ss) (x y o : ByteArray) : R SumRes :=
  .need (trOk t x y o) (.fork (okT t x y o) (.fork (decide ((trN t x y o : Int) > 16)) (erR 7) (.fork (apB t x y o) (liR base (t.n + 1) (addS t y)) (.fork (decide (t.n = 0)) (emR base) (liR base t.n t.at)))) (erR 2))
/-- a run with such an outcome, all that it asks for being so -/
def Out (f : FuncId) (I : Ifc) (js : List Nat) (r : Option (SV × List (Option SO))) : Prop := ∃ ds ps, outO js (callSim cfgT 20000 f I.args I.ents) ds = (ps, r) ∧ ∀ p ∈ ps, p
/-- which of the four ways -/
def Way (t : Ss) (x y o : ByteArray) (a : Nat) : Prop := a < 4 ∧ (a = 0 ↔ apB t x y o = true) ∧ ∀ (u : Ss) (g e : List Prop), (inP u y ↔ inP t y) → u.ok → (∀ p ∈ g, p) → (∀ p ∈ e, p) → ∀ p ∈ apC x y o u g a e, p
theorem way (t : Ss) (x y o : ByteArray) : ∃ a, Way t x y o a := by
  by_cases h1 : y = x
  · exact ⟨1, by omega, ⟨fun h => by omega, fun h => absurd h1 (cB_iff.1 h).1⟩, fun u g e hu hok hg he => app_all (rep_all (notF h1) 4) he⟩
  by_cases h2 : y = o
  · exact ⟨2, by omega, ⟨fun h => by omega, fun h => absurd h2 (cB_iff.1 h).2.1⟩, fun u g e hu hok hg he => all_cons (notT h1) (app_all (rep_all (notF h2) 5) he)⟩
  by_cases h3 : inP t y
  · exact ⟨3, by omega, ⟨fun h => by omega, fun h => absurd h3 (cB_iff.1 h).2.2⟩, fun u g e hu hok hg he => all_cons (notT h1) (all_cons (notT h2) (app_all hg (all_cons hok (all_cons (by rw [cB_true (hu.2 h3)]; rfl) he))))⟩
  · exact ⟨0, by omega, ⟨fun _ => cB_true ⟨h1, h2, h3⟩, fun _ => rfl⟩, fun u g e hu hok hg he => all_cons (notT h1) (all_cons (notT h2) (app_all hg (all_cons hok (all_cons (by rw [cB_false fun h => h3 (hu.1 h)]; rfl) he))))⟩
/-- what the runs of such a function are -/
structure TrRuns (f : FuncId) (I : Ifc) (t : Ss) (x y o : ByteArray) : Prop where
  bad : okT t x y o = false → Out f I [] (errT 2)
  none : okT t x y o = true → t.n = 0 → ∀ a, Way t x y o a → ∃ m, 1 ≤ m ∧ Out f I [e0M a m] (some (.tuple [e0V a m, .int .i64 (.lit 0)], [e0E y a]))
  some : okT t x y o = true → t.n ≠ 0 → ∀ a, Way t x y o a → ¬ ((e1N t a : Int) > 16) → Out f I [e1M a 3] (some (.tuple [smV (e1M a 3) (e1N t a), .int .i64 (.lit 0)], [e1E t y a]))
  full : okT t x y o = true → t.n ≠ 0 → ∀ a, Way t x y o a → (e1N t a : Int) > 16 → Out f I [] (errT 7)
theorem e1N_eq {t : Ss} {x y o : ByteArray} {a : Nat} (h : Way t x y o a) : e1N t a = trN t x y o := by
  unfold trN
  cases hb : apB t x y o with
  | true => rw [h.2.1.2 hb]; rfl
  | false =>
    cases a with
    | zero => rw [h.2.1.1 rfl] at hb; cases hb
    | succ a => rfl
theorem out_one' {I : Ifc} {base nm : Nat} (h : I.names.length ≤ nm) : I.out base [nm] nm = base := by
  unfold Ifc.out
  have hk : I.known nm = false := by
    unfold Ifc.known
    rw [lenN_eq]
    cases hb : Nat.blt nm I.names.length with
    | false => rfl
    | true => have : nm < I.names.length := Nat.le_of_ble_eq_true hb; omega
  rw [hk]
  show base + boolC (Nat.beq nm nm) 0 _ = base
  rw [Nat.beq_refl]; rfl
theorem seen_one (I : Ifc) (nm : Nat) : I.seen [nm] nm = true := by
  unfold Ifc.seen
  cases I.known nm with
  | true => rfl
  | false => exact memN_one nm
/-- a list that is made, and 0 -/
theorem li_ends {I : Ifc} {base nm n n' : Nat} {S : Nat → ByteArray} {l : SN} {c : Cells} {H : List SO} (hw : ownedOf I.ents 0 = []) (h : I.names.length ≤ nm) (hl : l = .lit n' ∨ l = .sym n') (hn : n = n') (hc : c.Imp (.fn (strF S) n')) (hu : c.Uses (I.seen [nm])) (hr : c.ren (I.out base [nm]) = c) (hH : H[nm]? = some (.own c false 9)) :
    I.EndsQ base [nm] ⟨tupI (smV base n) 0, [], [.own (.fn (strF S) n) false 9]⟩ (.tuple [.slice ⟨nm, .lit 0⟩ l (.rest nm 0), .int .i64 (.lit 0)]) H := by
  subst hn
  refine ⟨?_, ?_, by rw [hw]; trivial, ⟨.inl ⟨_, _, _, _, hH, hu, by rw [hr]; exact hc, rfl⟩, trivial⟩⟩
  · show SV.Imp (tupI (.slice ⟨I.out base [nm] nm, .lit 0⟩ l (.rest (I.out base [nm] nm) 0)) 0) (tupI (.slice ⟨base, .lit 0⟩ (.sym n) (.rest base 0)) 0)
    rw [out_one' h]
    rcases hl with rfl | rfl
    · exact fun _ _ h => h
    · exact .refl _
  · show ((I.seen [nm] nm && I.seen [nm] nm) && (true && true)) = true
    rw [seen_one]; rfl
theorem tr_sem {f : FuncId} {O : Nat → Prop} {w0 w : World} {β : Val} {H : List SO} {base : Nat} {vs : List Value} (hH : HeapRel0 Tryd.prog O w0 β H w) {I : Ifc} {t : Ss} {x y o : ByteArray} (hw : ownedOf I.ents 0 = []) (hn : I.names.length ≤ 1) (ha : SV.denL β (SV.renL I.big I.args) = some vs) (hI : I.FitsQ H) (hr : trOk t x y o → TrRuns f I t x y o) : (trR base t x y o).Sat (SumSem Tryd.prog H β w base f vs) := by
  obtain ⟨a, hway⟩ := way t x y o
  have hN := e1N_eq hway
  have go : ∀ {js v es r}, Out f I js (some (v, es)) → (∀ j ∈ js, I.names.length ≤ j) → js.Nodup → (∀ H2 : List SO, js.map (fun j => H2[j]?) = es → I.EndsQ base js r v H2) → SumSem Tryd.prog H β w base f vs r := fun ⟨ds, ps, h1, h2⟩ hk hkn hD => sum_runQ cfgTOK 20000 hH I (by intro g j hg; cases hg) ha hI _ hk hkn (outO_ob h1 h2 hD)
  have hset : SetsQ I.big (I.seen []) (I.out base []) H (ownedOf I.ents 0) [] := by rw [hw]; trivial
  intro hq
  have hr := hr hq
  refine ⟨fun hok => ⟨fun hf => ?_, fun hf => ⟨fun hap => ?_, fun hap => ⟨fun hz => ?_, fun hz => ?_⟩⟩⟩, fun hok => ?_⟩
  · have hf := of_decide_eq_true hf
    by_cases h0 : t.n = 0
    · exfalso
      unfold trN at hf
      cases hb : apB t x y o with
      | true => rw [hb] at hf; have hf : ((t.n + 1 : Nat) : Int) > 16 := hf; omega
      | false => rw [hb] at hf; have hf : ((t.n : Nat) : Int) > 16 := hf; omega
    · exact go (hr.full hok h0 a hway (by rw [hN]; exact hf)) (by simp) (by simp) fun H2 _ => ⟨.refl _, rfl, by rw [hw]; trivial, trivial⟩
  · have hf := of_decide_eq_false hf
    have ea := hway.2.1.2 hap
    subst ea
    have e1 : trN t x y o = t.n + 1 := by unfold trN; rw [hap]; rfl
    by_cases h0 : t.n = 0
    · obtain ⟨m, hm, hr⟩ := hr.none hok h0 0 hway
      refine go hr (by intro j hj; have hj : j ∈ [m + 2] := hj; simp at hj; omega) (by simp) fun H2 hH => ?_
      have h := (List.cons.inj (show [H2[m + 2]?] = [some (.own (.lst [.str (.sym y)]) false 9)] from hH)).1
      refine li_ends (nm := m + 2) (l := .lit 1) (n' := 1) hw (c := .lst [.str (.sym y)]) (by omega) (.inl rfl) (by omega) ?_ (by rfl) rfl h
      have := from_imp (strF (addS t y)) 1
      rwa [show mapN (strF (addS t y)) (fromN 1 0) = [.str (.sym y)] by show [SV.str (.sym (addS t y 0))] = _; unfold addS; rw [if_neg (by omega)]] at this
    · have hr := hr.some hok h0 0 hway (by rw [hN]; exact hf)
      refine go hr (by intro j hj; have hj : j ∈ [5] := hj; simp at hj; omega) (by simp) fun H2 hH => ?_
      have h := (List.cons.inj (show [H2[5]?] = [some (.own (.raw (addV (clV t) t.n y) ((t.n + 1) * 1)) false 9)] from hH)).1
      refine li_ends (nm := 5) (l := .sym (t.n + 1)) (n' := t.n + 1) hw (by omega) (.inr rfl) rfl (raw_imp fun j hj => ?_) trivial rfl h
      unfold addS
      by_cases c : j < t.n
      · rw [if_pos c, addV_old c]; rfl
      · obtain rfl : j = t.n := by omega
        rw [if_neg (by omega), addV_new]
  · have hz := of_decide_eq_true hz
    have hne : a ≠ 0 := fun e => by rw [hway.2.1.1 e] at hap; cases hap
    obtain ⟨m, hm, hr⟩ := hr.none hok hz a hway
    cases a with
    | zero => exact absurd rfl hne
    | succ a =>
      refine go hr (by intro j hj; have hj : j ∈ [m] := hj; simp at hj; omega) (by show [m].Nodup; simp) fun H2 hH => ?_
      have h := (List.cons.inj (show [H2[m]?] = [some (.own (.lst []) true 9)] from hH)).1
      refine ⟨?_, ?_, by rw [hw]; trivial, ⟨.inl ⟨_, _, _, _, h, rfl, .refl _, rfl⟩, trivial⟩⟩
      · show SV.Imp (tupI (.slice ⟨I.out base [m] m, .lit 0⟩ (.lit 0) (.lit 0)) 0) _
        rw [out_one' (by omega)]
        exact .refl _
      · show ((I.seen [m] m && true) && (true && true)) = true
        rw [seen_one]; rfl
  · have hf := of_decide_eq_false hf
    have hz := of_decide_eq_false hz
    have hne : a ≠ 0 := fun e => by rw [hway.2.1.1 e] at hap; cases hap
    have hr := hr.some hok hz a hway (by rw [hN]; exact hf)
    cases a with
    | zero => exact absurd rfl hne
    | succ a =>
      refine go hr (by intro j hj; have hj : j ∈ [3] := hj; simp at hj; omega) (by show [3].Nodup; simp) fun H2 hH => ?_
      have h := (List.cons.inj (show [H2[3]?] = [some (.own (.fn (clF t) t.n) false 9)] from hH)).1
      exact li_ends (nm := 3) (l := .sym t.n) (n' := t.n) hw (by omega) (.inr rfl) rfl (.refl _) (fun _ => rfl) rfl h
  · exact go (hr.bad hok) (by simp) (by simp) fun H2 _ => ⟨.refl _, rfl, by rw [hw]; trivial, trivial⟩
/- The program's runs, the reference's. -/
theorem thr_ok (x y o : ByteArray) : (thrSs x y o).ok := ⟨Nat.le_refl _, by show (3 : Nat) ≤ _; omega⟩
theorem thr_rls {x y o : ByteArray} : rlsP (thrSs x y o) ↔ rlmP x ∧ rlmP y ∧ rlmP o := by
  constructor
  · intro h
    exact ⟨h 0 (by show (0 : Nat) < 3; omega), h 1 (by show (1 : Nat) < 3; omega), h 2 (by show (2 : Nat) < 3; omega)⟩
  · rintro ⟨h1, h2, h3⟩ i hi
    have hi : i < 3 := hi
    rcases (show i = 0 ∨ i = 1 ∨ i = 2 by omega) with rfl | rfl | rfl
    · exact h1
    · exact h2
    · exact h3
theorem cB_not {p : Prop} (h : ¬ p) : (!cB p) = true := by rw [cB_false h]; rfl
theorem cB_yes {p : Prop} (h : p) : (!cB p) = false := by rw [cB_true h]; rfl
theorem fl0_all {t : Ss} {g e : List Prop} {b : Bool} (ht : t.ok) (hg : ∀ p ∈ g, p) (hb : decide (t.n = 0) = b) (he : ∀ p ∈ e, p) : ∀ p ∈ fl0 t g b e, p := by
  have h1 := ht.1
  have h2 := ht.2
  refine app_all hg (all_cons h1 (all_cons hb (all_cons ?_ he)))
  cases b with
  | true => exact (rfl : (1 : Nat) = 1)
  | false => exact (⟨⟨by omega, by omega⟩, rfl⟩ : (t.n * 16 < 140737488355328 ∧ t.n < 140737488355328) ∧ 1 = 1)
theorem e1C_all {t : Ss} {y : ByteArray} (ht : t.ok) (a : Nat) {e : List Prop} (he : ∀ p ∈ e, p) : ∀ p ∈ e1C t y a e, p := by
  have h1 := ht.1
  have h2 := ht.2
  cases a with
  | zero => exact all_cons (Nat.le_refl 1) (all_cons ⟨by omega, fun j _ => ⟨_, rfl⟩⟩ (all_cons ⟨⟨by omega, by omega⟩, fun j hj => by obtain rfl : j = 0 := (by omega); rfl⟩ he))
  | succ a => exact he
theorem inP_cl (t : Ss) (y : ByteArray) : inP (clSs t) y ↔ inP t y := by
  constructor
  · rintro ⟨i, hi, he⟩
    refine ⟨i, hi, ?_⟩
    have he : t.S (t.o + (0 + i)) = y := he
    rwa [Nat.zero_add] at he
  · rintro ⟨i, hi, he⟩
    refine ⟨i, hi, ?_⟩
    show t.S (t.o + (0 + i)) = y
    rw [Nat.zero_add]; exact he
theorem inP_e {u t : Ss} (hu : u.n = 0) (h : t.n = 0) (y : ByteArray) : inP u y ↔ inP t y := by
  constructor
  · rintro ⟨i, hi, _⟩; omega
  · rintro ⟨i, hi, _⟩; omega
theorem cl_ok {t : Ss} (h : t.ok) : (clSs t).ok := ⟨by show 0 + t.n ≤ t.n; omega, h.2⟩
theorem okT_true {t : Ss} {x y o : ByteArray} (h : okT t x y o = true) : rlsP t ∧ rlmP x ∧ rlmP y ∧ rlmP o := cB_iff.1 h
theorem okT_false {t : Ss} {x y o : ByteArray} (h : okT t x y o = false) : ¬ (rlsP t ∧ rlmP x ∧ rlmP y ∧ rlmP o) := fun hc => by
  unfold okT at h
  rw [cB_true hc] at h; cases h
noncomputable def trI (nm : Nat) (t : Ss) (k : Nat) (x y o : ByteArray) : Ifc := ⟨[nm], [t.row], [(t.pl k).val 0, .str (.sym x), .str (.sym y), .str (.sym o)]⟩
theorem tr_runs (nm k : Nat) {t : Ss} {x y o : ByteArray} (ht : t.ok) : TrRuns 11 (trI nm t k x y o) t x y o := by
  have h3 := thr_ok x y o
  have hG : okT t x y o = true → ∀ p ∈ trG t k x y o, p := fun h => by
    obtain ⟨h1, h2⟩ := okT_true h
    exact all_cons h3 (all_cons (cB_yes (thr_rls.2 h2)) (all_cons (strF_isS _) (all_cons ht (all_cons (cB_yes h1) all_nil))))
  refine ⟨fun h => ?_, fun h h0 a ha => ⟨2, by omega, ?_⟩, fun h h0 a ha hN => ?_, fun h h0 a ha hN => ?_⟩
  · have h := okT_false h
    by_cases h4 : rlmP x ∧ rlmP y ∧ rlmP o
    · exact ⟨_, _, tr_b2 t k x y o, all_cons h3 (all_cons (cB_yes (thr_rls.2 h4)) (all_cons (strF_isS _) (all_cons ht (all_cons (cB_not fun h5 => h ⟨h5, h4⟩) all_nil))))⟩
    · exact ⟨_, _, tr_b1 t k x y o, all_cons h3 (rep_all (cB_not fun h5 => h4 (thr_rls.1 h5)) 4)⟩
  · exact ⟨_, _, mapN_atL (tr_0 t k x y o) (Nat.zero_le a) (by have := ha.1; omega), fl0_all ht (hG h) (decide_eq_true h0) (ha.2.2 em0 [] [] (inP_e rfl h0 y) ⟨Nat.le_refl _, by show (0 : Nat) ≤ _; omega⟩ all_nil all_nil)⟩
  · exact ⟨_, _, mapN_atL (tr_1 t k x y o) (Nat.zero_le a) (by have := ha.1; omega), fl0_all ht (hG h) (decide_eq_false h0) (ha.2.2 (clSs t) _ _ (inP_cl t y) (cl_ok ht) (all_cons (strF_isS _) all_nil) (e1C_all ht a (all_cons (decide_eq_false hN) all_nil)))⟩
  · exact ⟨_, _, mapN_atL (tr_f t k x y o) (Nat.zero_le a) (by have := ha.1; omega), fl0_all ht (hG h) (decide_eq_false h0) (ha.2.2 (clSs t) _ _ (inP_cl t y) (cl_ok ht) (all_cons (strF_isS _) all_nil) (e1C_all ht a (all_cons (decide_eq_true hN) all_nil)))⟩
theorem thr_sm {x y o : ByteArray} (hx : x.size ≤ 9223372036854775807) (hy : y.size ≤ 9223372036854775807) (ho : o.size ≤ 9223372036854775807) : smA (thrSs x y o) := ⟨thr_ok x y o, fun i hi => by
  have hi : i < 3 := hi
  rcases (show i = 0 ∨ i = 1 ∨ i = 2 by omega) with rfl | rfl | rfl
  · exact hx
  · exact hy
  · exact ho⟩
theorem rt_runs (nm k : Nat) {t : Ss} {x y o : ByteArray} (ht : trOk t x y o) : TrRuns 12 (trI nm t k x y o) t x y o := by
  obtain ⟨hs, hx, hy, ho⟩ := ht
  have ht := hs.1
  have h3 := thr_sm hx hy ho
  have hG : okT t x y o = true → ∀ p ∈ rtG t k x y o, p := fun h => by
    obtain ⟨h1, h2⟩ := okT_true h
    exact all_cons (strF_isS _) (all_cons hs (all_cons (cB_yes h1) (all_cons h3 (all_cons (cB_yes (thr_rls.2 h2)) all_nil))))
  refine ⟨fun h => ?_, fun h h0 a ha => ⟨2, by omega, ?_⟩, fun h h0 a ha hN => ?_, fun h h0 a ha hN => ?_⟩
  · have h := okT_false h
    by_cases h4 : rlsP t
    · exact ⟨_, _, rt_b2 t k x y o, all_cons (strF_isS _) (all_cons hs (all_cons (cB_yes h4) (all_cons h3 (all_cons (cB_not fun h5 => h ⟨h4, thr_rls.1 h5⟩) all_nil))))⟩
    · exact ⟨_, _, rt_b1 t k x y o, all_cons (strF_isS _) (all_cons hs (rep_all (cB_not h4) 7))⟩
  · exact ⟨_, _, mapN_atL (rt_0 t k x y o) (Nat.zero_le a) (by have := ha.1; omega), fl0_all ht (hG h) (decide_eq_true h0) (ha.2.2 (t.pl k) _ [] Iff.rfl ht (all_cons (strF_isS _) all_nil) all_nil)⟩
  · exact ⟨_, _, mapN_atL (rt_1 t k x y o) (Nat.zero_le a) (by have := ha.1; omega), fl0_all ht (hG h) (decide_eq_false h0) (ha.2.2 (t.pl k) _ _ Iff.rfl ht (all_cons (strF_isS _) all_nil) (e1C_all ht a (all_cons (decide_eq_false hN) all_nil)))⟩
  · exact ⟨_, _, mapN_atL (rt_f t k x y o) (Nat.zero_le a) (by have := ha.1; omega), fl0_all ht (hG h) (decide_eq_false h0) (ha.2.2 (t.pl k) _ _ Iff.rfl ht (all_cons (strF_isS _) all_nil) (e1C_all ht a (all_cons (decide_eq_true hN) all_nil)))⟩
theorem nil_sm : smA nilSs := ⟨nil_ok, fun i hi => by have : i < 0 := hi; omega⟩
theorem nil_rls : rlsP nilSs := fun i hi => by have : i < 0 := hi; omega
theorem rz_runs {x y o : ByteArray} (hx : x.size ≤ 9223372036854775807) (hy : y.size ≤ 9223372036854775807) (ho : o.size ≤ 9223372036854775807) : TrRuns 12 ⟨[], [], [.nilSlice, .str (.sym x), .str (.sym y), .str (.sym o)]⟩ nilSs x y o := by
  have h3 := thr_sm hx hy ho
  refine ⟨fun h => ?_, fun h h0 a ha => ⟨1, Nat.le_refl _, ?_⟩, fun h h0 => absurd rfl h0, fun h h0 => absurd rfl h0⟩
  · have h := okT_false h
    exact ⟨_, _, rz_b2 x y o, all_cons nil_sm (all_cons (cB_yes nil_rls) (all_cons h3 (all_cons (cB_not fun h5 => h ⟨nil_rls, thr_rls.1 h5⟩) all_nil)))⟩
  · obtain ⟨_, h2⟩ := okT_true h
    exact ⟨_, _, mapN_atL (rz_0 x y o) (Nat.zero_le a) (by have := ha.1; omega), app_all (all_cons nil_sm (all_cons (cB_yes nil_rls) (all_cons h3 (all_cons (cB_yes (thr_rls.2 h2)) all_nil)))) (ha.2.2 nilSs [] [] Iff.rfl nil_ok all_nil all_nil)⟩
/- The summaries: the program's of what is not nil. -/
noncomputable def trPm : Summ := fun args H base => args4 args fun v a b c => optC (strV a) (.stuck 7827) fun x => optC (strV b) (.stuck 7827) fun y => optC (strV c) (.stuck 7827) fun o => partSs H v fun t _ => trR base t x.den y.den o.den
noncomputable def trQm : Summ := fun args H base => args4 args fun v a b c => optC (strV a) (.stuck 7827) fun x => optC (strV b) (.stuck 7827) fun y => optC (strV c) (.stuck 7827) fun o => optSs H v fun t _ => trR base t x.den y.den o.den
theorem tr_part {f : FuncId} {O : Nat → Prop} {w0 w : World} {β : Val} {H : List SO} {base : Nat} {vs : List Value} (hH : HeapRel0 Tryd.prog O w0 β H w) {v : SV} {x y o : ByteArray} (ha : SV.denL β [v, .str (.sym x), .str (.sym y), .str (.sym o)] = some vs) {t : Ss} {nm : Nat} (ht : ∀ g, ∃ e', H[nm]? = some e' ∧ Taken g t.row e') (hi : v.Imp (t.val nm))
    (hr : ∀ k, trOk t x y o → TrRuns f (trI nm t k x y o) t x y o) : (trR base t x y o).Sat (SumSem Tryd.prog H β w base f vs) := by
  obtain ⟨u, us, hu, hus, rfl⟩ := denL_cons.1 ha
  obtain ⟨k, _, hu'⟩ := Ss.val_den (hi _ _ hu)
  refine tr_sem (I := trI nm t k x y o) hH rfl (Nat.le_refl 1) ?_ (Ifc.fitsQ (by simp [trI]) ?_ ⟨⟨ht _, t.row_uses _⟩, trivial⟩) (hr k)
  · show SV.denL β (((t.pl k).val 0).ren _ :: [.str (.sym x), .str (.sym y), .str (.sym o)]) = _
    rw [Ss.val_ren]; exact denL_cons.2 ⟨_, _, hu', hus, rfl⟩
  · show (((t.pl k).val 0).uses _ && true) = true
    rw [Ss.val_uses _ _ _ rfl]; rfl
theorem trPOK : SumOK Tryd.prog 11 trPm := by
  intro glob O w0 β H w base args vs hH hG ha
  refine args4_sat fun v a b c hv => optC_only fun x hx => optC_only fun y hy => optC_only fun o ho => ?_
  rw [hv, strV_spec hx, strV_spec hy, strV_spec ho] at ha
  have ha := impL_cons (.refl v) (impL_cons (str_imp (t := .sym x.den) rfl) (impL_cons (str_imp (t := .sym y.den) rfl) (impL_cons (str_imp (t := .sym o.den) rfl) impL_nil))) _ _ ha
  exact partSs_sat fun t nm ht hi => tr_part hH ha ht hi fun k hq => tr_runs nm k hq.1.1
theorem trQOK : SumOK Tryd.prog 12 trQm := by
  intro glob O w0 β H w base args vs hH hG ha
  refine args4_sat fun v a b c hv => optC_only fun x hx => optC_only fun y hy => optC_only fun o ho => ?_
  rw [hv, strV_spec hx, strV_spec hy, strV_spec ho] at ha
  have ha := impL_cons (.refl v) (impL_cons (str_imp (t := .sym x.den) rfl) (impL_cons (str_imp (t := .sym y.den) rfl) (impL_cons (str_imp (t := .sym o.den) rfl) impL_nil))) _ _ ha
  refine optSs_sat (fun hn => ?_) fun t nm ht hi => tr_part hH ha ht hi fun k hq => rt_runs nm k hq
  rw [hn] at ha
  exact tr_sem (I := ⟨[], [], [.nilSlice, .str (.sym x.den), .str (.sym y.den), .str (.sym o.den)]⟩) hH rfl (Nat.zero_le 1) ha (Ifc.fitsQ (by simp) rfl trivial) fun hq => rz_runs hq.2.1 hq.2.2.1 hq.2.2.2
end Go.Proofs.YtbhhagnpgkjmgaaDoor.Aes


/-
  Routes: the order of pairs of realms.
-/
namespace Go.Proofs.YtbhhagnpgkjmgaaDoor.Aes
open Go.Sim
open Go.Proofs
variable {α : Type}

/-- a pair of strings -/
noncomputable def pairL : List SV → Option (SStr × SStr)
  | [a, b] => optC (strV a) none fun a => optC (strV b) none fun b => some (a, b)
  | _ => none
noncomputable def pairV (v : SV) : Option (SStr × SStr) := v.asAgg none pairL
theorem pairL_spec : ∀ {l : List SV} {p : SStr × SStr}, pairL l = some p → l = [.str p.1, .str p.2]
  | [a, b], p, h => by
    have h : (optC (strV a) none fun a => optC (strV b) none fun b => some (a, b)) = some p := h
    cases ha : strV a with
    | none => rw [ha] at h; cases h
    | some x =>
      cases hb : strV b with
      | none => rw [ha, hb] at h; cases h
      | some y =>
        rw [ha, hb] at h
        cases h
        rw [strV_spec ha, strV_spec hb]
  | [], _, h => by cases h
  | [_], _, h => by cases h
  | _ :: _ :: _ :: _, _, h => by cases h
theorem pairV_spec {v : SV} {p : SStr × SStr} (h : pairV v = some p) : v = .agg [.str p.1, .str p.2] := by
  cases v with
  | agg l => rw [pairL_spec h]
  | _ => cases h
noncomputable def orI (x y : SI) : SI := SI.rec (motive := fun _ => SI) (fun n => boolC (n != 0) (.lit n) y) (fun n => .sym (boolC (n != 0) n y.den)) (fun b => .sym (boolC ((SI.b8 b).den != 0) (SI.b8 b).den y.den)) (fun b => .sym (boolC ((SI.b32 b).den != 0) (SI.b32 b).den y.den)) (fun b => .sym (boolC ((SI.b64 b).den != 0) (SI.b64 b).den y.den)) x
theorem orI_den (x y : SI) : (orI x y).den = boolC (x.den != 0) x.den y.den := by
  cases x with
  | lit n =>
    show (boolC (n != 0) (SI.lit n) y).den = boolC (n != 0) n y.den
    cases n != 0 <;> rfl
  | _ => rfl
noncomputable def c2S : Summ := fun args _ _ => args2 args fun v w => optC (pairV v) (.stuck 682) fun p => optC (pairV w) (.stuck 682) fun q => .ok ⟨SV.int .i64 (orI (cmpI p.1 q.1) (cmpI p.2 q.2)), [], []⟩
noncomputable def c2A (a b c d : ByteArray) : List SV := [.agg [.str (.sym a), .str (.sym b)], .agg [.str (.sym c), .str (.sym d)]]
theorem c2_run1 (a b c d : ByteArray) : outO [] (callSim cfgR0 400 50 (c2A a b c d) []) [true] = ([(cmpZ a c != 0) = true], some (.int .i64 (.sym (cmpZ a c)), [])) := by kernel_rfl
theorem c2_run2 (a b c d : ByteArray) : outO [] (callSim cfgR0 400 50 (c2A a b c d) []) [false, false] = ([(cmpZ a c != 0) = false, (cmpZ b d != 0) = false], some (.int .i64 (.lit 0), [])) := by kernel_rfl
theorem c2_run3 (a b c d : ByteArray) : outO [] (callSim cfgR0 400 50 (c2A a b c d) []) [false, true] = ([(cmpZ a c != 0) = false, (cmpZ b d != 0) = true], some (.int .i64 (.sym (cmpZ b d)), [])) := by kernel_rfl
theorem agg2_imp {a b c d : SStr} (h : a.den = c.den) (h' : b.den = d.den) : (SV.agg [.str a, .str b]).Imp (.agg [.str c, .str d]) := fun β x hx => by
  simp only [SV.den, SV.denL, Option.map_some, Option.bind_some] at hx ⊢
  rw [← h, ← h']; exact hx
theorem c2OK : SumOK Tryd.prog 50 c2S := by
  intro glob O w0 β H w base args vs hH hG ha
  refine args2_sat fun v1 v2 hv => optC_only fun p hp => optC_only fun q hq => ?_
  rw [hv, pairV_spec hp, pairV_spec hq] at ha
  have ha := impL_cons (agg2_imp (c := .sym p.1.den) (d := .sym p.2.den) rfl rfl) (impL_cons (agg2_imp (c := .sym q.1.den) (d := .sym q.2.den) rfl rfl) impL_nil) _ _ ha
  have hE : ∀ (n : SI), boolC (cmpZ p.1.den q.1.den != 0) (cmpZ p.1.den q.1.den) (cmpZ p.2.den q.2.den) = n.den → ∀ H2 : List SO, (⟨[], [], c2A p.1.den p.2.den q.1.den q.2.den⟩ : Ifc).Ends base [] ⟨SV.int .i64 (orI (cmpI p.1 q.1) (cmpI p.2 q.2)), [], []⟩ (SV.int .i64 n) H2 := fun n hn H2 => ⟨int_impS (by rw [orI_den, cmpI_den, cmpI_den, hn]), rfl, trivial, trivial⟩
  cases hb : cmpZ p.1.den q.1.den != 0 with
  | true => exact sum_outO cfgR0OK rfl 400 hH ⟨[], [], c2A p.1.den p.2.den q.1.den q.2.den⟩ ha (fits0 rfl) [] (by simp) (by simp) (c2_run1 _ _ _ _) (all_cons hb all_nil) fun H2 _ => hE _ (by rw [hb]; rfl) H2
  | false =>
    cases he : cmpZ p.2.den q.2.den != 0 with
    | true => exact sum_outO cfgR0OK rfl 400 hH ⟨[], [], c2A p.1.den p.2.den q.1.den q.2.den⟩ ha (fits0 rfl) [] (by simp) (by simp) (c2_run3 _ _ _ _) (all_cons hb (all_cons he all_nil)) fun H2 _ => hE _ (by rw [hb]; rfl) H2
    | false => exact sum_outO cfgR0OK rfl 400 hH ⟨[], [], c2A p.1.den p.2.den q.1.den q.2.den⟩ ha (fits0 rfl) [] (by simp) (by simp) (c2_run2 _ _ _ _) (all_cons hb (all_cons he all_nil)) fun H2 _ => hE (.lit 0) (by
        have h0 : cmpZ p.2.den q.2.den = 0 := by simpa using he
        rw [hb, h0]; rfl) H2
noncomputable def cfgR1 : Cfg := cfgOf (sumsOf [(69, idxS), (52, cmpS), (50, c2S)])
theorem cfgR1OK : CfgOK cfgR1 := sumsOf_ok (allC idxOK (allC cmpOK (all1 c2OK)))
end Go.Proofs.YtbhhagnpgkjmgaaDoor.Aes


/-
  Routes: the five pairs of the chapter in order, in whatever order the map hands them out.
-/
namespace Go.Proofs.YtbhhagnpgkjmgaaDoor.Aes
open Go.Sim
open Go.Proofs
variable {α : Type}

set_option maxRecDepth 1000000
def bA (l : List UInt8) : ByteArray := ⟨l.toArray⟩
noncomputable def rA : SV := .str (.lit (bA [65]))
noncomputable def rB : SV := .str (.lit (bA [66]))
noncomputable def rC : SV := .str (.lit (bA [67]))
noncomputable def rD : SV := .str (.lit (bA [68, 46, 67]))
noncomputable def es5 : List (SV × SV × Nat) := [(.agg [rA, rB], .bool (.lit true), 0), (.agg [rA, rC], .bool (.lit true), 1), (.agg [rB, rD], .bool (.lit true), 2), (.agg [rC, rD], .bool (.lit true), 3), (.agg [rD, rA], .bool (.lit true), 4)]
noncomputable def srt5 : Tree := callSim cfgR1 20000 44 [.map 0] [.obj (.map es5 5)]
/-- the directions that take the x-th of m + 1, and what they say -/
noncomputable def dirQ (m : Nat) : Nat → List Bool := Nat.rec (motive := fun _ => Nat → List Bool) (fun _ => []) (fun _ ih x => Nat.rec (motive := fun _ => List Bool) [true] (fun y _ => false :: ih y) x) m
noncomputable def cndQ (v m : Nat) : Nat → Nat → List Prop := Nat.rec (motive := fun _ => Nat → Nat → List Prop) (fun _ _ => []) (fun _ ih j x => Nat.rec (motive := fun _ => List Prop) [decide (v = j) = true] (fun y _ => (decide (v = j) = false) :: ih (Nat.succ j) y) x) m
theorem cndQ_ok (v : Nat) : ∀ (m j : Nat), j ≤ v → ∀ p ∈ cndQ v m j (min (v - j) m), p
  | 0, j, _ => fun p hp => absurd (show p ∈ ([] : List Prop) from hp) (by simp)
  | m + 1, j, h => by
    cases hx : min (v - j) (m + 1) with
    | zero =>
      have : v = j := by omega
      intro p hp
      have hp : p ∈ [decide (v = j) = true] := hp
      simp only [List.mem_singleton] at hp
      subst hp
      exact decide_eq_true this
    | succ y =>
      intro p hp
      have hp : p ∈ (decide (v = j) = false) :: cndQ v m (j + 1) y := hp
      rcases List.mem_cons.1 hp with rfl | hp
      · exact decide_eq_false (by omega)
      · have e : y = min (v - (j + 1)) m := by omega
        rw [e] at hp
        exact cndQ_ok v m (j + 1) (by omega) p hp
noncomputable def dir5 (b k : Nat) : List Bool := app (dirQ 4 b) (app (dirQ 3 (k / 6)) (app (dirQ 2 (k % 6 / 2)) (dirQ 1 (k % 2))))
noncomputable def cnd5 (z : Nat → Nat → Nat) (b k : Nat) : List Prop := app (cndQ (z 0 0) 4 0 b) (app (cndQ (z 1 0) 3 0 (k / 6)) (app (cndQ (z 2 0) 2 0 (k % 6 / 2)) (cndQ (z 3 0) 1 0 (k % 2))))
noncomputable def out5 : SV × List (Option SO) := (.slice ⟨25, .lit 0⟩ (.lit 5) (.rest 25 0), [some (.obj (.map es5 5)), some (.own (.lst [rA, rB, rA, rC, rB, rD, rC, rD, rD, rA]) false 48)])
end Go.Proofs.YtbhhagnpgkjmgaaDoor.Aes

