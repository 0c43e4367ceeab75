/-
  ReplayNone: the law's own run.
-/
import Derived.Test.YtfckmicnambkdaaDoorZRpl4
namespace Go.Proofs.YtfckmicnambkdaaDoor.Aes
open Go.Sim
open Go.Proofs
open Go.RowKit

set_option maxRecDepth 1000000
noncomputable def cfgRN (f : (Nat → BitVec 8) → Nat → Nat → BitVec 8) : Cfg := cfgG globS (sumsOf [(51, hashS (tabF f)), (29, hashM (tabF f) 1099511627776), (17, exS)])
theorem cfgRNOK : CfgOK (cfgRN shaG) := sumsG_ok (allS (by rw [tab_sha]; exact sumOK) (allS (by rw [tab_sha]; exact rsmOK) (allS exOK (by simp))))
section
variable (f : (Nat → BitVec 8) → Nat → Nat → BitVec 8)
noncomputable def rno (args : List SV) (ds : List Bool) := outO [] (callSim (cfgRN f) 4000 3 args (shaH [])) ds
theorem rno_run (b : BitVec 8) (t n : Int) : rno f [.int .u8 (.b8 b), .int .i64 (.sym t), .int .i64 (.sym n)] [] =
    ([(0 + 1 ≤ 1 ∧ 1 ≤ 1099511627776), (0 + 1 ≤ 1 ∧ 1 ≤ 1099511627776)], some (.bool (.lit true), [])) := by kernel_rfl
end
theorem none_law {w : World} {β : Val} (hH : HeapRel Tryd.prog (fun _ => False) w β (shaH []) w) (hG : GlobRel globS β) {b t n : Int} (hb : (Lit.int .u8 b).wf = true) :
    Calls Tryd.prog 3 #[.int .u8 b, .int .i64 t, .int .i64 n] w fun e w' => e = .returned (.bool true) ∧ Below w.heap.size w w' := by
  have hn : (0 : Int) ≤ b ∧ b ≤ 255 := by
    simp [Lit.wf, IntKind.min, IntKind.max, IntKind.signed, IntKind.bits] at hb
    omega
  have hx : (SV.int .u8 (.b8 (BitVec.ofInt 8 b))).den β = some (.int .u8 b) := by
    show some (Value.int .u8 ((BitVec.ofInt 8 b).toNat : Int)) = _
    rw [show ((BitVec.ofInt 8 b).toNat : Int) = b by rw [BitVec.toNat_ofInt]; omega]
  exact law_by cfgRNOK 4000 hH hG (denL_cons.2 ⟨_, _, hx, denL_cons.2 ⟨_, _, rfl, denL_cons.2 ⟨_, _, rfl, rfl, rfl⟩, rfl⟩, rfl⟩) [] (rno_run shaG (BitVec.ofInt 8 b) t n)
    (all_cons ⟨by omega, by omega⟩ (all_cons ⟨by omega, by omega⟩ all_nil))
end Go.Proofs.YtfckmicnambkdaaDoor.Aes

