/-
  AuditNone: nil and zero auditors answer as stated: the law's own runs.
-/
import Derived.Test.YtfefmcemfbheoaaGreatDoorZAud2
namespace Go.Proofs.YtfefmcemfbheoaaGreatDoor.Aes
open Go.Sim
open Go.Proofs
variable {α : Type}

set_option maxRecDepth 1000000
noncomputable def slB (b : Bool) (m n c : Nat) : SV := boolC b (.slice ⟨m, .lit 0⟩ (.sym n) (.sym c)) .nilSlice
structure EvA where
  (k t : Int) (n1 c1 n2 c2 n3 c3 n4 c4 k1 k2 k3 k4 : Nat) (S1 S2 S3 S4 : Nat → ByteArray) (r1 r2 r3 : ByteArray) (y1 y2 : Option Addr) (u1 d1 u2 d2 : Nat) (z0 z1 z2 z3 i : Int)
noncomputable def evC (x : EvA) (b1 b2 b3 b4 : Bool) : List SV := [.int .i64 (.sym x.k), .int .i64 (.sym x.t), slB b1 0 x.n1 x.c1, .str (.sym x.r1), slB b2 1 x.n2 x.c2, .str (.sym x.r2), slB b3 2 x.n3 x.c3, .str (.sym x.r3), .val (.slice x.y1 x.u1 x.d1), .val (.slice x.y2 x.u2 x.d2), .int .i64 (.sym x.z0), .int .i64 (.sym x.z1), .int .i64 (.sym x.z2), .int .i64 (.sym x.z3), slB b4 3 x.n4 x.c4]
noncomputable def evH (x : EvA) (b1 b2 b3 b4 : Bool) : List SO := [boolC b1 (rowSt x.S1 x.k1) .gone, boolC b2 (rowSt x.S2 x.k2) .gone, boolC b3 (rowSt x.S3 x.k3) .gone, boolC b4 (rowSt x.S4 x.k4) .gone]
noncomputable def evS (x : EvA) (b1 b2 b3 b4 : Bool) : List SV := [.agg (evC x b1 b2 b3 b4), .int .i64 (.sym x.i)]
section
variable (x : EvA) (b1 b2 b3 : Bool)
noncomputable def anS0 : SS := stopOf (callSim (cfgN0.at (some (2, 3))) 20000 3 (evS x b1 b2 b3 true) (evH x b1 b2 b3 true)) []
noncomputable def anC (j : Nat) : Cut := ⟨bareFs (anS0 x b1 b2 b3).frames [[(1, .ptr ⟨5, .lit 0⟩), (3, .int .i64 (.sym j))], [(1, .int .i64 (.sym x.i)), (2, .ptr ⟨4, .lit 0⟩)]], app (mapN HP.ent (evH x b1 b2 b3 true)) [.ent (.own (.lst (evC x b1 b2 b3 true)) true 30), .ent (.own (.lst (evC x b1 b2 b3 true)) true 30)]⟩
noncomputable def anM : List Nat := [0, 1, 2, 3, 4, 5]
theorem an_init (z : Nat → Nat → Nat) : outL [] (anC x b1 b2 b3 0) anM (callSim (cfgN0.at (some (2, 3))) 20000 3 (evS x b1 b2 b3 true) (evH x b1 b2 b3 true)) [] z = ([], some (.inr (modSeen [(0, 3, .int .i64 (.lit 0))] [] (seenC anM 6 (anC x b1 b2 b3 0))))) := by
  cases b1 <;> cases b2 <;> cases b3 <;> kernel_rfl
noncomputable def anIn (j : Nat) (q : List Prop) : List Prop := (decide ((j : Int) < (x.n4 : Int)) = true) :: (decide ((j : Int) < 21) = true) :: ((0 : Int) ≤ (j : Int) ∧ (j : Int) < (x.n4 : Int)) :: (0 + j * 1 < x.k4) :: q
theorem an_turn (j : Nat) (J : Junk) (z : Nat → Nat → Nat) : outL [] (anC x b1 b2 b3 j) anM (sim1 (cfgN0.at (some (2, 3))) 20000 ((anC x b1 b2 b3 j).fill J)) [true, true, false] z = (anIn x j [decide (((x.S4 (0 + j * 1)).size : Int) > 60) = false, inI64 ((j : Int) + 1)], some (.inr (seenC anM 6 (anC x b1 b2 b3 (j + 1))))) := by
  cases b1 <;> cases b2 <;> cases b3 <;> kernel_rfl
noncomputable def anE (j : Nat) (J : Junk) (ds : List Bool) (z : Nat → Nat → Nat) : OutL := outL [] (anC x b1 b2 b3 j) anM (sim1 (cfgN0.at none) 20000 ((anC x b1 b2 b3 j).fill J)) ds z
noncomputable def yes : Option ((SV × List (Option SO)) ⊕ Seen) := some (.inl (.bool (.lit true), []))
theorem an_fail (j : Nat) (J : Junk) (z : Nat → Nat → Nat) : anE x b1 b2 b3 j J [true, true, true] z = (anIn x j [decide (((x.S4 (0 + j * 1)).size : Int) > 60) = true], yes) := by
  cases b1 <;> cases b2 <;> cases b3 <;> kernel_rfl
theorem an_many (j : Nat) (J : Junk) (z : Nat → Nat → Nat) : anE x b1 b2 b3 j J (true :: repN false 5) z = ((decide ((j : Int) < (x.n4 : Int)) = true) :: (decide ((j : Int) < 21) = false) :: repN (decide ((x.n4 : Int) ≤ 20) = false) 4, yes) := by
  cases b1 <;> cases b2 <;> cases b3 <;> kernel_rfl
noncomputable def pN (b : Bool) (n k : Nat) (S : Nat → ByteArray) (q : List Prop) : List Prop := boolC b ((n ≤ k ∧ ∀ i : Nat, SV.str (.sym (S i)) = .str (.sym (S i))) :: q) q
noncomputable def pB (b : Bool) (S : Nat → ByteArray) (n : Nat) (r : ByteArray) : Bool := boolC b (shB S n r) (valT (shN r))
noncomputable def pP (j : Nat) (q : List Prop) : List Prop := app (repN (decide ((j : Int) < (x.n4 : Int)) = false) 3) q
noncomputable def pX (q : List Prop) : List Prop := (decide ((x.n4 : Int) ≤ 20) = true) :: q
noncomputable def q1 : List Prop := pN b1 x.n1 x.k1 x.S1 (repN (pB b1 x.S1 x.n1 x.r1 = false) 4)
noncomputable def q2 : List Prop := pN b1 x.n1 x.k1 x.S1 ((pB b1 x.S1 x.n1 x.r1 = true) :: pN b2 x.n2 x.k2 x.S2 (repN (pB b2 x.S2 x.n2 x.r2 = false) 4))
noncomputable def q3 : List Prop := pN b1 x.n1 x.k1 x.S1 ((pB b1 x.S1 x.n1 x.r1 = true) :: pN b2 x.n2 x.k2 x.S2 ((pB b2 x.S2 x.n2 x.r2 = true) :: pN b3 x.n3 x.k3 x.S3 (repN (pB b3 x.S3 x.n3 x.r3 = false) 5)))
noncomputable def q0 (q : List Prop) : List Prop := pN b1 x.n1 x.k1 x.S1 ((pB b1 x.S1 x.n1 x.r1 = true) :: pN b2 x.n2 x.k2 x.S2 ((pB b2 x.S2 x.n2 x.r2 = true) :: pN b3 x.n3 x.k3 x.S3 ((pB b3 x.S3 x.n3 x.r3 = true) :: q)))
noncomputable def q4 : List Prop := q0 x b1 b2 b3 (repN (decide ((x.u1 : Int) ≤ 100) = false) 5)
noncomputable def q5 (b : Bool) : List Prop := q0 x b1 b2 b3 [decide ((x.u1 : Int) ≤ 100) = true, (!decide ((x.u2 : Int) ≤ 100)) = b]
theorem an_e0 (j : Nat) (J : Junk) (z : Nat → Nat → Nat) : anE x b1 b2 b3 j J (repN false 7) z = (pP x j (repN (decide ((x.n4 : Int) ≤ 20) = false) 4), yes) := by
  cases b1 <;> cases b2 <;> cases b3 <;> kernel_rfl
theorem an_e1 (j : Nat) (J : Junk) (z : Nat → Nat → Nat) : anE x b1 b2 b3 j J (app (repN false 3) (true :: repN false 4)) z = (pP x j (pX x (q1 x b1)), yes) := by
  cases b1 <;> cases b2 <;> cases b3 <;> kernel_rfl
theorem an_e2 (j : Nat) (J : Junk) (z : Nat → Nat → Nat) : anE x b1 b2 b3 j J (app (repN false 3) (app (repN true 2) (repN false 4))) z = (pP x j (pX x (q2 x b1 b2)), yes) := by
  cases b1 <;> cases b2 <;> cases b3 <;> kernel_rfl
theorem an_e3 (j : Nat) (J : Junk) (z : Nat → Nat → Nat) : anE x b1 b2 b3 j J (app (repN false 3) (app (repN true 3) (repN false 5))) z = (pP x j (pX x (q3 x b1 b2 b3)), yes) := by
  cases b1 <;> cases b2 <;> cases b3 <;> kernel_rfl
theorem an_e4 (j : Nat) (J : Junk) (z : Nat → Nat → Nat) : anE x b1 b2 b3 j J (app (repN false 3) (app (repN true 4) (repN false 5))) z = (pP x j (pX x (q4 x b1 b2 b3)), yes) := by
  cases b1 <;> cases b2 <;> cases b3 <;> kernel_rfl
theorem an_e5 (j : Nat) (J : Junk) (z : Nat → Nat → Nat) : anE x b1 b2 b3 j J (app (repN false 3) (repN true 6)) z = (pP x j (pX x (q5 x b1 b2 b3 true)), yes) := by
  cases b1 <;> cases b2 <;> cases b3 <;> kernel_rfl
theorem an_e6 (j : Nat) (J : Junk) (z : Nat → Nat → Nat) : anE x b1 b2 b3 j J (app (repN false 3) (app (repN true 5) [false])) z = (pP x j (pX x (q5 x b1 b2 b3 false)), yes) := by
  cases b1 <;> cases b2 <;> cases b3 <;> kernel_rfl
theorem an_names (i j : Nat) : boolC (namesOK 4 anM (anC x b1 b2 b3 i) (anC x b1 b2 b3 j)) (allN noLoopE (anC x b1 b2 b3 j).heap) false = true := by
  cases b1 <;> cases b2 <;> cases b3 <;> kernel_rfl
theorem an_tmp (j : Nat) : (((anC x b1 b2 b3 j).frames[0]?).bind fun p => p.tmps[3]?) = some (some (.int .i64 (.sym j))) := by
  cases b1 <;> cases b2 <;> cases b3 <;> kernel_rfl
/- without transited realms -/
noncomputable def anN (ds : List Bool) : List Prop × Option (SV × List (Option SO)) := outO [] (callSim cfgN0 20000 3 (evS x b1 b2 b3 false) (evH x b1 b2 b3 false)) ds
noncomputable def yesO : Option (SV × List (Option SO)) := some (.bool (.lit true), [])
theorem an_n1 : anN x b1 b2 b3 (repN false 4) = (q1 x b1, yesO) := by
  cases b1 <;> cases b2 <;> cases b3 <;> kernel_rfl
theorem an_n2 : anN x b1 b2 b3 (true :: repN false 4) = (q2 x b1 b2, yesO) := by
  cases b1 <;> cases b2 <;> cases b3 <;> kernel_rfl
theorem an_n3 : anN x b1 b2 b3 (app (repN true 2) (repN false 5)) = (q3 x b1 b2 b3, yesO) := by
  cases b1 <;> cases b2 <;> cases b3 <;> kernel_rfl
theorem an_n4 : anN x b1 b2 b3 (app (repN true 3) (repN false 5)) = (q4 x b1 b2 b3, yesO) := by
  cases b1 <;> cases b2 <;> cases b3 <;> kernel_rfl
theorem an_n5 : anN x b1 b2 b3 (repN true 5) = (q5 x b1 b2 b3 true, yesO) := by
  cases b1 <;> cases b2 <;> cases b3 <;> kernel_rfl
theorem an_n6 : anN x b1 b2 b3 (app (repN true 4) [false]) = (q5 x b1 b2 b3 false, yesO) := by
  cases b1 <;> cases b2 <;> cases b3 <;> kernel_rfl
end
end Go.Proofs.YtfefmcemfbheoaaGreatDoor.Aes

