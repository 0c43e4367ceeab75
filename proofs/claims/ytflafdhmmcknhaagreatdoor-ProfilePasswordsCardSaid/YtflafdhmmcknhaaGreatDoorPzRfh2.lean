/-
  The reference's hash, second part: a block, its loops.
-/
import Derived.Test.YtflafdhmmcknhaaGreatDoorPp6
namespace Go.Proofs.YtflafdhmmcknhaaGreatDoor.Aes
open Go.Sim
open Go.Proofs
variable {α : Type}

noncomputable def kW (i : Nat) : W32 := atW constV' i
noncomputable def rconF : SO := .row (.fn (fun i => iw (kW i)) 64)
noncomputable def rfhH (l : List SO) : List SO := startR :: constR :: rconV :: rconF :: l
section
variable (X : Nat → BitVec 8) (N o m : Nat) (L : List W32)
noncomputable def blkArgs : List SV := [.agg (ux (eight L)), .slice ⟨4, .sym o⟩ (.lit 64) (.sym m)]
noncomputable def blkEnts : List SO := rfhH [rowF X N]
noncomputable def blkS0 : SS := stopOf (callSim (cfgR1.at none) 1888 82 (blkArgs o m L) (blkEnts X N)) []
structure BlkA where
  t : Int
  W : Nat → W32
noncomputable def blkC (A : BlkA) : Cut :=
  ⟨bareFs (blkS0 X N o m L).frames [[(2, .ptr ⟨5, .lit 0⟩), (4, .ptr ⟨6, .lit 0⟩), (5, .ptr ⟨7, .lit 0⟩), (8, .int .i64 (.sym A.t))]],
   [.ent startR, .ent constR, .ent rconV, .ent rconF, .ent (rowF X N), .ent (.own (.lst (ux (eight L))) true 126), entN (blkS0 X N o m L).heap 6, .ent (.own (.fn (fun j => iw (A.W j)) 64) true 146)]⟩
noncomputable def junk0 : Junk := ⟨fun _ _ => undef, fun _ _ => undef⟩
noncomputable def blkS3 : SS := stopOf (sim1 (cfgR1.at (some (1, 3))) 400 ((blkC X N o m L ⟨64, fun _ => wd 0⟩).fill junk0)) [false]
structure BlkB where
  t : Int
  W : Nat → W32
  V : List W32
noncomputable def blkD (B : BlkB) : Cut :=
  ⟨bareFs (blkS3 X N o m L).frames [[(2, .ptr ⟨5, .lit 0⟩), (4, .ptr ⟨6, .lit 0⟩), (5, .ptr ⟨7, .lit 0⟩), (13, .ptr ⟨8, .lit 0⟩), (14, .int .i64 (.sym B.t))]],
   [.ent startR, .ent constR, .ent rconV, .ent rconF, .ent (rowF X N), .ent (.own (.lst (ux (eight L))) true 126), entN (blkS0 X N o m L).heap 6, .ent (.own (.fn (fun j => iw (B.W j)) 64) true 146), .ent (.own (.lst (ux (eight B.V))) true 126)]⟩
/-- either loop -/
inductive BlkS where
  | a (A : BlkA)
  | b (B : BlkB)
noncomputable def blkX (S : BlkS) : Cut := BlkS.rec (motive := fun _ => Cut) (fun A => blkC X N o m L A) (fun B => blkD X N o m L B) S
noncomputable def blkNs : List Nat := fromN 8 0
noncomputable def eI (i : Nat) (r : Nat) : Int := Nat.rec (motive := fun _ => Int) (0 + ((X i).toNat : Int)) (fun r e => wrapF .i64 (Int.mul 256 e) + ((X (i + (r + 1))).toNat : Int)) r
noncomputable def cBlk : List Prop := List.rec (motive := fun _ => List Prop) [] (fun t _ ih => (o + (4 * t + 0) < N) :: inI64 (eI X (o + 4 * t) 0) :: (o + (4 * t + 1) < N) :: inI64 (eI X (o + 4 * t) 1) :: (o + (4 * t + 2) < N) :: inI64 (eI X (o + 4 * t) 2) :: (o + (4 * t + 3) < N) :: inI64 (eI X (o + 4 * t) 3) :: ih) (fromN 16 0)
noncomputable def wL0 : List SV := app (mapN (fun t => .int .i64 (.sym (eI X (o + 4 * t) 3))) (fromN 16 0)) (repN (.int .i64 (.lit 0)) 48)
theorem blk_init (W : Nat → W32) (z : Nat → Nat → Nat) : outL [] (blkC X N o m L ⟨16, W⟩) blkNs (callSim (cfgR1.at none) 1888 82 (blkArgs o m L) (blkEnts X N)) [] z =
    (cBlk X N o, some (.inr (modSeen [(0, 8, .int .i64 (.lit 16))] [(7, .ent (.own (.lst (wL0 X o)) true 146))] (seenC blkNs 8 (blkC X N o m L ⟨16, W⟩))))) := by kernel_rfl
/- A round of the second loop. -/
noncomputable def atI (W : Nat → W32) (i : Int) : W32 := W (0 + i.toNat * 1)
noncomputable def sg1 (y : W32) : W32 := rrt y 17 ^^^ rrt y 19 ^^^ y >>> 10
noncomputable def rsg0 (x : W32) : W32 := rrt x 7 ^^^ rrt x 18 ^^^ x >>> 3
noncomputable def nextI (A : BlkA) : Int := ((sg1 (atI A.W (A.t - 2))).toNat : Int) + ((atI A.W (A.t - 7)).toNat : Int) + ((rsg0 (atI A.W (A.t - 15))).toNat : Int) + ((atI A.W (A.t - 16)).toNat : Int)
noncomputable def rrdC (A : BlkA) (k : Int) (r : List Prop) : List Prop := inI64 (A.t - k) :: (0 ≤ A.t - k ∧ A.t - k < 64) :: (0 + (A.t - k).toNat * 1 < 64) :: r
noncomputable def c2 (A : BlkA) : List Prop := (decide (A.t < 64) = true) :: rrdC A 15 (rrdC A 2 (rrdC A 7 (inI64 (((sg1 (atI A.W (A.t - 2))).toNat : Int) + ((atI A.W (A.t - 7)).toNat : Int)) :: inI64 (((sg1 (atI A.W (A.t - 2))).toNat : Int) + ((atI A.W (A.t - 7)).toNat : Int) + ((rsg0 (atI A.W (A.t - 15))).toNat : Int)) ::
  rrdC A 16 [inI64 (nextI A), 0 ≤ nextI A, 0 ≤ A.t ∧ A.t < 64, 0 + A.t.toNat * 1 < 64, inI64 (A.t + 1)])))
noncomputable def newW (A : BlkA) : Nat → W32 := fun j => if j = 0 + A.t.toNat * 1 then BitVec.ofInt 32 (nextI A) else A.W j
theorem blk_turn2 (A : BlkA) (J : Junk) (z : Nat → Nat → Nat) : outL [] (blkC X N o m L A) blkNs (sim1 (cfgR1.at (some (1, 3))) 4000 ((blkC X N o m L A).fill J)) [true] z =
    (c2 A, some (.inr (modSeen [] [(7, .ent (.own (.fn (fun j => if j = 0 + A.t.toNat * 1 then iw (BitVec.ofInt 32 (nextI A)) else iw (A.W j)) 64) true 146))] (seenC blkNs 8 (blkC X N o m L ⟨A.t + 1, newW A⟩))))) := by kernel_rfl
noncomputable def blkNs3 : List Nat := fromN 9 0
theorem blk_exit2 (A : BlkA) (t : Int) (J : Junk) (z : Nat → Nat → Nat) : outL [] (blkD X N o m L ⟨t, A.W, L⟩) blkNs3 (sim1 (cfgR1.at (some (1, 3))) 4000 ((blkC X N o m L A).fill J)) [false] z =
    ([decide (A.t < 64) = false], some (.inr (modSeen [(0, 14, .int .i64 (.lit 0))] [] (seenC blkNs3 9 (blkD X N o m L ⟨t, A.W, L⟩))))) := by kernel_rfl
/- A round of the third loop. -/
noncomputable def s1V (V : List W32) : W32 := rrt (atW V 4) 6 ^^^ rrt (atW V 4) 11 ^^^ rrt (atW V 4) 25
noncomputable def s0V (V : List W32) : W32 := rrt (atW V 0) 2 ^^^ rrt (atW V 0) 13 ^^^ rrt (atW V 0) 22
noncomputable def tI1 (B : BlkB) : Int := ((atW B.V 7).toNat : Int) + ((s1V B.V).toNat : Int)
noncomputable def tI2 (B : BlkB) : Int := tI1 B + ((choiceW (atW B.V 4) (atW B.V 5) (atW B.V 6)).toNat : Int)
noncomputable def tI3 (B : BlkB) : Int := tI2 B + ((atI kW B.t).toNat : Int)
noncomputable def tI4 (B : BlkB) : Int := tI3 B + ((atI B.W B.t).toNat : Int)
noncomputable def tI5 (B : BlkB) : Int := ((s0V B.V).toNat : Int) + ((majW (atW B.V 0) (atW B.V 1) (atW B.V 2)).toNat : Int)
noncomputable def tA (B : BlkB) : Int := tI4 B + tI5 B
noncomputable def tE (B : BlkB) : Int := ((atW B.V 3).toNat : Int) + tI4 B
noncomputable def ixC (t : Int) (r : List Prop) : List Prop := (0 ≤ t ∧ t < 64) :: (0 + t.toNat * 1 < 64) :: r
noncomputable def c3 (B : BlkB) : List Prop := (decide (B.t < 64) = true) :: inI64 (tI1 B) :: inI64 (tI2 B) :: ixC B.t (inI64 (tI3 B) :: ixC B.t [inI64 (tI4 B), inI64 (tI5 B), inI64 (tA B), 0 ≤ tA B, inI64 (tE B), 0 ≤ tE B, inI64 (B.t + 1)])
noncomputable def newV (B : BlkB) : List W32 := [BitVec.ofInt 32 (tA B), atW B.V 0, atW B.V 1, atW B.V 2, BitVec.ofInt 32 (tE B), atW B.V 4, atW B.V 5, atW B.V 6]
theorem blk_turn3 (B : BlkB) (J : Junk) (z : Nat → Nat → Nat) : outL [] (blkD X N o m L B) blkNs3 (sim1 (cfgR1.at (some (1, 3))) 4000 ((blkD X N o m L B).fill J)) [true] z =
    (c3 B, some (.inr (seenC blkNs3 9 (blkD X N o m L ⟨B.t + 1, B.W, newV B⟩)))) := by kernel_rfl
noncomputable def sumI (L V : List W32) (i : Nat) : Int := ((atW L i).toNat : Int) + ((atW V i).toNat : Int)
noncomputable def c4 (B : BlkB) : List Prop := (decide (B.t < 64) = false) :: List.rec (motive := fun _ => List Prop) [] (fun i _ ih => inI64 (sumI L B.V i) :: (0 ≤ sumI L B.V i) :: ih) (fromN 8 0)
noncomputable def endV (V : List W32) : List W32 := mapN (fun i => BitVec.ofInt 32 (sumI L V i)) (fromN 8 0)
theorem blk_end3 (B : BlkB) (J : Junk) (z : Nat → Nat → Nat) : outL [] (blkD X N o m L B) blkNs3 (sim1 (cfgR1.at none) 4000 ((blkD X N o m L B).fill J)) [false] z =
    (c4 L B, some (.inl (.agg (ux (endV L B.V)), []))) := by kernel_rfl
theorem blk_namesA (A A' : BlkA) : boolC (namesOK 5 blkNs (blkC X N o m L A) (blkC X N o m L A')) (allN noLoopE (blkC X N o m L A').heap) false = true := by kernel_rfl
theorem blk_namesB (B B' : BlkB) : boolC (namesOK 5 blkNs3 (blkD X N o m L B) (blkD X N o m L B')) (allN noLoopE (blkD X N o m L B').heap) false = true := by kernel_rfl
theorem blk_tmpA (A : BlkA) : (((blkX X N o m L (.a A)).frames[0]?).bind fun p => p.tmps[8]?) = some (some (.int .i64 (.sym A.t))) := by kernel_rfl
theorem blk_tmpB (B : BlkB) : (((blkX X N o m L (.b B)).frames[0]?).bind fun p => p.tmps[14]?) = some (some (.int .i64 (.sym B.t))) := by kernel_rfl
end
end Go.Proofs.YtflafdhmmcknhaaGreatDoor.Aes

