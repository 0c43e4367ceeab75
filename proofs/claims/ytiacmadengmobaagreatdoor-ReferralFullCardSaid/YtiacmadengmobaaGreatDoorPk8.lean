/-
  ReferralFull: the law's run.
-/
import Derived.Test.YtiacmadengmobaaGreatDoorPk5
import Derived.Test.YtiacmadengmobaaGreatDoorZRfn5
namespace Go.Proofs.YtiacmadengmobaaGreatDoor.Aes
open Go.Sim
open Go.Proofs
open Go.RowKit
variable {α : Type}

set_option maxRecDepth 1000000
theorem realmQ_runs : mapN (fun p : List UInt8 × Bool => outO [] (callSim cfgX 20000 11 [.str (.lit (bAs p.1))] []) []) realmQ = mapN (fun p : List UInt8 × Bool => (([], some (.bool (.lit p.2), [])) : List Prop × Option (SV × List (Option SO)))) realmQ := by kernel_rfl
theorem rfQOK : ∀ y ∈ rfQ, SumOK Tryz.prog y.1 y.2 := allC idxOK (allC cmpOK (allC (tabOK cfgXOK realmQ_runs) (allC vsOK (allC hostOK (all1 kn37OK)))))
theorem cfgQOK : CfgOK cfgQ := sumsOf_ok rfQOK
noncomputable def fCut (n : Int) : Nat → Cut
  | 0 => fC0 n
  | i + 1 => fC n (i + 1) (hostEs (i + 1))
theorem ff_tmp (n : Int) (i : Nat) (es : List MapEntry) : (((fC n i es).frames[0]?).bind fun p => p.tmps[4]?) = some (some (.int .i64 (.sym i))) := by kernel_rfl
theorem ff_ent (n : Int) (i : Nat) (es : List MapEntry) : (fC n i es).heap[1]? = some (.ent (.obj (.amap sS sS es i))) := by kernel_rfl
theorem ff_runs {n : Int} (h0 : 0 ≤ n) (h1 : n < 65536) : Runs cfgQ 3 [.int .u16 (.sym n)] [] fun v _ => v = .bool (.lit true) := by
  refine runs_by cfgQOK (fCut n) (fun j => j ≤ 500) (fun j => 500 - j) (fun g nm hg => by cases hg) ?_ fun j hj J => ?_
  · exact to_start (some (1, 3)) 20000 0 (Nat.zero_le _) (ff_init n) (ff_names0 n) all_nil
  · match j, hj, J with
    | 0, _, J =>
      refine to_turnM (some (1, 3)) 20000 1 ⟨by omega, by omega⟩ (ff_first n J) (ff_names n 1 1 _ _) (fun m hm p u hp hu => ?_) (fun e he E0 hE => ?_) (all_cons ⟨by decide, by decide⟩ (all_cons (noSuf_host (by omega)) all_nil))
      · obtain rfl : m = (0, 4, .int .i64 (.lit 1)) := by simpa using hm
        exact tmp_set (ff_tmp n 1 (hostEs 1)) hp hu (int_impS rfl)
      · obtain rfl : e = (1, .ent (.obj (.map [(.str (.bytes (hostL 0)), .str (.lit ⟨#[82]⟩), 0)] 1))) := by simpa using he
        cases (ff_ent n 1 (hostEs 1)).symm.trans hE
        exact imp_first _
    | i + 1, hi, J =>
      by_cases h : i + 1 < 500
      · refine to_turnM (some (1, 3)) 20000 (i + 2) ⟨by omega, by omega⟩ (ff_turn n (i + 1) J) (ff_names n (i + 1) (i + 2) _ _) (fun m hm => by cases hm) (fun e he E0 hE => ?_) (all_cons (decide_eq_true (by omega)) (all_cons ⟨by omega, by omega⟩ (all_cons (noSuf_host (by omega)) (all_cons (hasK_new (by omega)) (all_cons (decide_eq_false (by rw [hostEs_length]; omega)) (all_cons (hasK_new (by omega)) (all_cons ⟨by omega, by omega⟩ all_nil)))))))
        obtain rfl : e = (1, .ent (.obj (.amap sS sS (insK (hostEs (i + 1)) (i + 1) (.string (hostZ (i + 1))) (.string ⟨#[82]⟩)) (i + 1 + 1)))) := by simpa using he
        cases (ff_ent n (i + 2) (hostEs (i + 2))).symm.trans hE
        exact imp_turn _ _
      · have e : i = 499 := by omega
        subst e
        exact to_end none 20000 (ff_end n (hostEs 500) J) (endC_all h0 h1) fun H _ => rfl
theorem ff_law {w : World} {n : Int} (h0 : 0 ≤ n) (h1 : n < 65536) : Calls Tryz.prog 3 #[.int .u16 n] w fun e w' => e = .returned (.bool true) ∧ Below w.heap.size w w' :=
  law_runs (c := cfgQ) (args := [.int .u16 (.sym n)]) (HeapRel.start _ _ w) (.none _) rfl (ff_runs h0 h1)
theorem ff_wf {w : World} {n : Int} (h : (Lit.int .u16 n).wf = true) : Calls Tryz.prog 3 #[.int .u16 n] w fun e w' => e = .returned (.bool true) ∧ Below w.heap.size w w' := by
  have h : (decide ((0 : Int) ≤ n) && decide (n ≤ (65535 : Int))) = true := h
  obtain ⟨h0, h1⟩ := Bool.and_eq_true_iff.1 h
  have h0 := of_decide_eq_true h0
  have h1 := of_decide_eq_true h1
  exact ff_law h0 (by omega)
end Go.Proofs.YtiacmadengmobaaGreatDoor.Aes

