/-
  Texts behind one another: the symbolic simulator and what it is told of the program.
-/
import Derived.Test.YtoooohgejkebjaaGreatDoorZRfn5
import Derived.Test.YtoooohgejkebjaaGreatDoorPk7

/-
  ReferralNone: what the law's runs are told.
-/
namespace Go.Proofs.YtoooohgejkebjaaGreatDoor.Aes
open Go.Sim
open Go.Proofs
variable {α : Type}

end Go.Proofs.YtoooohgejkebjaaGreatDoor.Aes


/-
  ReferralHosts: the law's runs, the first loop.
-/
namespace Go.Proofs.YtoooohgejkebjaaGreatDoor.Aes
open Go.Sim
open Go.Proofs
variable {α : Type}

set_option maxRecDepth 1000000
noncomputable def rlHL : List (FuncId × Summ) := [(5, trueS), (4, shSm), (19, adSm), (20, rvSm), (22, rrSm), (18, hrSm), (7, ruSm), (27, vsS), (28, rlmS), (46, clnM)]
theorem rlHLOK : ∀ y ∈ rlHL, SumOK Tryz.prog y.1 y.2 := allC kn37OK (allC shOK (allC adOK (allC rvOK (allC rrOK (allC hrOK (allC ruOK (allC vsOK (allC rlmOK (all1 clnStOK)))))))))
noncomputable def cfgHL : Cfg := cfgOf (sumsOf rlHL)
theorem cfgHLOK : CfgOK cfgHL := sumsOf_ok rlHLOK
noncomputable def ntC (n : Nat) (a : α) (f : Nat → α) : α := Nat.rec (motive := fun _ => α) a (fun k _ => f k) n
section
variable (V : Nat → Value) (N n k : Nat) (many : Int) (J : Junk) (z : Nat → Nat → Nat)
noncomputable def hlT (st : Option (Nat × Nat)) : Tree := callSim (cfgHL.at st) 20000 3 [slP 0 n k, .int .i64 (.sym many)] [rwA V N]
noncomputable def hlZ (st : Option (Nat × Nat)) : Tree := callSim (cfgHL.at st) 20000 3 [.nilSlice, .int .i64 (.sym many)] []
variable (mn re : Bool) (es : List MapEntry) (c : Nat) (W : Nat → Value) (m i : Nat)
noncomputable def hlF : List SP := bareFs (stopOf (hlT V N n k many (some (1, 3))) [false]).frames [[(0, slP 0 n k), (3, .ptr ⟨1, .lit 0⟩), (4, .ptr ⟨2, .lit 0⟩), (5, .ptr ⟨3, .lit 0⟩), (6, .ptr ⟨5, .lit 0⟩), (7, .bool (.lit true)), (8, .int .i64 (.sym i))]]
noncomputable def hlR : SV := boolC re (.slice ⟨4, .lit 0⟩ (.sym 0) (.sym 0)) (.slice ⟨4, .lit 0⟩ (.sym m) (.rest 4 0))
noncomputable def hlC : Cut := ⟨hlF V N n k many i, (.ent (rwA V N)) :: (.ent (.own (.lst [.int .i64 (.sym many)]) true 3)) :: (.ent (.own (.lst [.bool (.lit false)]) true 4)) :: (.ent (.own (.lst [boolC mn .nilMap (.map 6)]) true 28)) ::
  (.ent (boolC re (.own (.lst []) true 42) (.own (.raw W (m * 2)) false 42))) :: (.ent (.own (.lst [hlR re m]) true 30)) :: boolC mn [] [.ent (.obj (.amap kSt kSt es c))]⟩
noncomputable def hlS (st : Option (Nat × Nat)) : Tree := sim1 (cfgHL.at st) 20000 ((hlC V N n k many mn re es c W m i).fill J)
end
end Go.Proofs.YtoooohgejkebjaaGreatDoor.Aes

