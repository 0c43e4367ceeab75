/-
  The hash function: Sum, its loop.
-/
import Derived.Test.YtflafdhmmcknhaaGreatDoorPzSha1
namespace Go.Proofs.YtflafdhmmcknhaaGreatDoor.Aes
open Go.Sim
open Go.Proofs
variable {α : Type}

noncomputable def sums2 : List (FuncId × Summ) := [(79, addS)]
noncomputable def cfgH2 : Cfg := cfgG globP (sumsOf sums2)
theorem cfgH2OK : CfgOK cfgH2 := sumsG_ok (allS addOK (by simp))
/-- a slice among the arguments, az the tail of itself -/
noncomputable def tailA (nm o n m : Nat) : SV := .tail ⟨nm, .sym o⟩ (.lit 0) (.sym n) (.sym m)
noncomputable def sumArgs (o n m : Nat) : List SV := [tailA 4 o n m]
noncomputable def sumEnts (X : Nat → BitVec 8) (N : Nat) : List SO := shaHP [rowF X N]
noncomputable def sumS0 (X : Nat → BitVec 8) (N o n m : Nat) : SS := stopOf (callSim (cfgH2.at (some (2, 3))) 4000 58 (sumArgs o n m) (sumEnts X N)) []
structure SumA where
  p : Nat
  s : SN
  len : Nat
  cap : Nat
  ws : List W32
noncomputable def entN (H : List SO) (i : Nat) : HP := optC (nth H i) (.ent .gone) fun e => .ent e
noncomputable def sumC (X : Nat → BitVec 8) (N o n m : Nat) (A : SumA) : Cut :=
  ⟨bareFs (sumS0 X N o n m).frames [[(0, .func (.yield 10) [] []), (1, .ptr ⟨7, .lit 0⟩), (2, .ptr ⟨8, .lit 0⟩), (4, .tail ⟨4, .sym A.p⟩ A.s (.sym A.len) (.sym A.cap))], [(2, .ptr ⟨5, .lit 0⟩), (3, .ptr ⟨6, .lit 0⟩)]],
   [.ent startR, .ent constR, .ent anyR, .ent anyR, .ent (rowF X N), entN (sumS0 X N o n m).heap 5, .ent (.own (.lst (wx (eight A.ws))) true 97), .ent .gone, .ent (.own (.lst [.int .i64 (.sym n)]) true 3), .ent (.deferred (some [])), bareL (nth (sumS0 X N o n m).heap 10) [(3, .ptr ⟨6, .lit 0⟩)]]⟩
noncomputable def sumNs : List Nat := fromN 11 0
noncomputable def cTurn (X : Nat → BitVec 8) (N : Nat) (A : SumA) : List Prop := [decide ((A.len : Int) ≥ 64) = true, 0 < A.len, 64 ≤ A.cap, IsB (byteF X), A.p + A.s.den + 0 + 64 ≤ N, 0 < A.len, 64 ≤ A.len]
/-- the last block or two: what is left, a bit, the length -/
noncomputable def endL (size : Nat) (Y : Nat → BitVec 8) (len n : Nat) : List (BitVec 8) :=
  overN (putB (0 + (len : Int).toNat * 1) 1 (fun _ => BitVec.ofNat 8 128) (putB 0 len Y (repN (BitVec.ofNat 8 0) size) 0) 0) (Nat.sub size 8)
    (mapN (fun j => ((BitVec.ofInt 64 (n : Int) * BitVec.ofInt 64 8) >>> (8 * (7 - j))).setWidth 8) (fromN 8 0))
noncomputable def byte4 (x : W32) : List (BitVec 8) := [(x >>> 24).setWidth 8, (x >>> 16).setWidth 8, (x >>> 8).setWidth 8, x.setWidth 8]
noncomputable def hashB (l : List W32) : List (BitVec 8) := List.rec (motive := fun _ => List (BitVec 8)) [] (fun x _ ih => app (byte4 x) ih) (eight l)
noncomputable def cEnd (X : Nat → BitVec 8) (N : Nat) (A : SumA) (big : Bool) (size : Nat) (r : List Prop) : List Prop :=
  (decide ((A.len : Int) ≥ 64) = false) :: inI64 ((A.len : Int) + 9) :: (decide ((A.len : Int) + 9 > 64) = big) :: (A.p + A.s.den + A.len ≤ N ∧ IsB (byteF X)) :: (A.len ≤ size) :: (0 + A.len ≤ size) :: (0 ≤ (A.len : Int) ∧ (A.len : Int) < (size : Int)) :: (0 + (A.len : Int).toNat * 1 + 1 ≤ size) :: r
noncomputable def leftF (X : Nat → BitVec 8) (A : SumA) : Nat → BitVec 8 := fun i => X (A.p + A.s.den + i)
noncomputable def end1 (X : Nat → BitVec 8) (n : Nat) (A : SumA) : List W32 := cmpW (eight A.ws) (words16 (byteAt (endL 64 (leftF X A) A.len n)) 0)
noncomputable def end2 (X : Nat → BitVec 8) (n : Nat) (A : SumA) : List W32 := cmpW (eight (cmpW (eight A.ws) (words16 (byteAt (endL 128 (leftF X A) A.len n)) 0))) (words16 (byteAt (endL 128 (leftF X A) A.len n)) 64)
section
variable (X : Nat → BitVec 8) (N o n m : Nat) (A : SumA) (J : Junk) (z : Nat → Nat → Nat)
theorem sum_init : outL [] (sumC X N o n m ⟨o, .lit 0, n, m, startV⟩) sumNs (callSim (cfgH2.at (some (2, 3))) 4000 58 (sumArgs o n m) (sumEnts X N)) [] z =
    ([], some (.inr (setSeen 6 (.ent (.own (.lst (kx .u32 startL)) true 97)) (seenC sumNs 11 (sumC X N o n m ⟨o, .lit 0, n, m, startV⟩))))) := by kernel_rfl
theorem sum_turn : outL [] (sumC X N o n m A) sumNs (sim1 (cfgH2.at (some (2, 3))) 4000 ((sumC X N o n m A).fill J)) [true] z =
    (cTurn X N A, some (.inr (seenC sumNs 11 (sumC X N o n m ⟨A.p + A.s.den, .lit 64, A.len - 64, A.cap - 64, cmpW (eight A.ws) (words16 X (A.p + A.s.den + 0))⟩)))) := by kernel_rfl
theorem sum_names (B : SumA) : boolC (namesOK 5 sumNs (sumC X N o n m A) (sumC X N o n m B)) (allN noLoopE (sumC X N o n m B).heap) false = true := by kernel_rfl
theorem sum_end1 : outL [] (sumC X N o n m A) sumNs (sim1 (cfgH2.at none) 8000 ((sumC X N o n m A).fill J)) [false, false] z =
    (cEnd X N A false 64 [0 + 64 ≤ 64], some (.inl (.agg (bx (hashB (end1 X n A))), []))) := by kernel_rfl
theorem sum_end2 : outL [] (sumC X N o n m A) sumNs (sim1 (cfgH2.at none) 8000 ((sumC X N o n m A).fill J)) [false, true] z =
    (cEnd X N A true 128 [0 + 64 ≤ 128, 64 + 64 ≤ 128], some (.inl (.agg (bx (hashB (end2 X n A))), []))) := by kernel_rfl
end
end Go.Proofs.YtflafdhmmcknhaaGreatDoor.Aes

