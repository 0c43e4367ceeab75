/-
  The profiles: Seal in profile 1.
-/
import Derived.Test.YtflafdhmmcknhaaGreatDoorPzPro12
import Derived.Test.YtflafdhmmcknhaaGreatDoorPzCts5
namespace Go.Proofs.YtflafdhmmcknhaaGreatDoor.Aes
open Go.Sim
open Go.Proofs
variable {α : Type}

set_option maxRecDepth 1000000
abbrev CtsF := Blk → Blk → (Nat → BitVec 8) → Nat → Blk
noncomputable def cfgSe (F : HashF) (E : CtsF) : Cfg := cfgG globP (sumsOf [(26, usableS), (51, deS F), (65, hmS F), (31, mkS (tagB F)), (34, mkS (tagS F)), (17, joinS), (52, numS), (57, stS F), (54, ctsS E)])
theorem cfgSeOK : CfgOK (cfgSe shaF encF) := sumsG_ok (allS (usableOK _) (allS deOK (allS hmOK (allS mk1OK (allS mk2OK (allS (joinOK _) (allS (pnumOK _) (allS stOK (allS (encOK _) (by simp))))))))))
noncomputable def seT (F : HashF) (E : CtsF) (p : Int) (n : Nat) (v u : Int) (k c t : Sl) : Tree := callSim (cfgSe F E) 8000 14 [.agg [.int .i64 (.lit p), .int .i64 (.sym v), k.valN 4 n], .int .i64 (.sym u), c.valN 5 16, t.val 6] (shaHP [k.row, c.row, t.row])
/-- the derived key, az it lies -/
noncomputable def dkS (F : HashF) (k : Sl) (n : Nat) (u : Int) (x : BitVec 8) : Sl := ⟨byteAt (tabB (byteAt (kdfB F (k.len n).F n (lblS u x) n)) n), n, 0, n, true, 0⟩
/-- the ciphertext, az it lies -/
noncomputable def cphS (F : HashF) (E : CtsF) (k c t : Sl) (u : Int) : Sl := ⟨byteAt (E (block16 (dkS F k 16 u 0xaa#8).X 0) (block16 z16.X 0) (fun j => two (c.len 16) t (0 + j)) (16 + t.n)), 16 + t.n, 0, 16 + t.n, true, 0⟩
noncomputable def tag1S (F : HashF) (E : CtsF) (k c t : Sl) (u : Int) : Sl := ⟨byteAt (tabB (byteAt (tagB F (dkS F k 16 u 0x55#8) (cphS F E k c t u))) 32), 32, 0, 16, false, 16⟩
noncomputable def seC1 (F : HashF) (E : CtsF) (v u : Int) (k c t : Sl) : List Prop :=
  [decide (0 ≤ v) = true, decide (v ≤ 65535) = true, decide (1 ≤ u) = true, decide (u ≤ 1023) = true, decide ((t.n : Int) > 65536) = false, IsB (byteF k.X), k.o + 16 ≤ k.N,
   IsB (byteF c.X), IsB (byteF t.X), ((okL (c.len 16) ∧ 16 ≠ 0) ∧ okL t), 0 + 16 ≤ 16, 0 + 16 ≤ 16, decide (16 + t.n < 16) = false, decide (16 + t.n < 131073) = true, IsB (byteF (two (c.len 16) t)), (0 + (16 + t.n) ≤ 16 + t.n ∧ 16 + t.n ≤ 224),
   IsB (byteF k.X), k.o + 16 ≤ k.N, IsB (byteF (cphS F E k c t u).X), (okK (dkS F k 16 u 0x55#8) ∧ okL (cphS F E k c t u)), IsB (byteF (cphS F E k c t u).X), ((okL (cphS F E k c t u) ∧ (cphS F E k c t u).n ≠ 0) ∧ okL (tag1S F E k c t u))]
noncomputable def seV (nm : Nat) (p : Int) (v : SI) (n : Nat) : SV := .tuple [.agg [.int .i64 (.lit p), .int .i64 v, joinV nm n], .int .i64 (.lit 0)]
theorem se_run1 (F : HashF) (E : CtsF) (v u : Int) (k c t : Sl) (m m2 m3 : Nat) : outO [20] (seT F E 1 16 v u (k.pl m) (c.pl m2) (t.pl m3)) [true, true, true, true, false, false, true] =
    (seC1 F E v u k c t, some (seV 20 1 (.sym v) (16 + t.n + 16), [some (.own (.fn (byteF (two (cphS F E k c t u) (tag1S F E k c t u))) (16 + t.n + 16)) false 5)])) := by kernel_rfl
noncomputable def seT5 (F : HashF) (E : CtsF) (v u : Int) (k c t : Sl) : Tree := callSim (cfgSe F E) 8000 14 [.agg [.int .i64 (.lit 2), .int .i64 (.sym v), k.valN 4 32], .int .i64 (.sym u), c.valN 5 16, t.valN 6 5] (shaHP [k.row, c.row, t.row])
noncomputable def str5 (F : HashF) (k c t : Sl) (u : Int) : Sl := ⟨byteAt (tabB (strF F (dkS F k 32 u 0xaa#8) (c.len 16) (t.len 5)) 5), 5, 0, 5, true, 0⟩
noncomputable def cph5 (F : HashF) (k c t : Sl) (u : Int) : Sl := ⟨two (c.len 16) (str5 F k c t u), 16 + 5, 0, 16 + 5, true, 0⟩
noncomputable def tag5 (F : HashF) (k c t : Sl) (u : Int) : Sl := ⟨byteAt (tabB (byteAt (tagS F (dkS F k 32 u 0x55#8) (cph5 F k c t u))) 32), 32, 0, 32, false, 32⟩
noncomputable def seC5 (F : HashF) (v u : Int) (k c t : Sl) : List Prop :=
  [decide (0 ≤ v) = true, decide (v ≤ 65535) = true, decide (1 ≤ u) = true, decide (u ≤ 1023) = true, IsB (byteF k.X), k.o + 32 ≤ k.N,
   IsB (byteF c.X), IsB (byteF t.X), (okK (dkS F k 32 u 0xaa#8) ∧ okL (c.len 16) ∧ okL (t.len 5)), IsB (byteF c.X), ((okL (c.len 16) ∧ 16 ≠ 0) ∧ okL (str5 F k c t u)), IsB (byteF k.X), k.o + 32 ≤ k.N,
   IsB (byteF (cph5 F k c t u).X), (okK (dkS F k 32 u 0x55#8) ∧ okL (cph5 F k c t u)), IsB (byteF (cph5 F k c t u).X), ((okL (cph5 F k c t u) ∧ (cph5 F k c t u).n ≠ 0) ∧ okL (tag5 F k c t u))]
theorem se_run5 (F : HashF) (E : CtsF) (v u : Int) (k c t : Sl) (m m2 m3 : Nat) : outO [19] (seT5 F E v u (k.pl m) (c.pl m2) (t.pl m3)) [true, true, true, true] =
    (seC5 F v u k c t, some (seV 19 2 (.sym v) (16 + 5 + 32), [some (.own (.fn (byteF (two (cph5 F k c t u) (tag5 F k c t u))) (16 + 5 + 32)) false 5)])) := by kernel_rfl
end Go.Proofs.YtflafdhmmcknhaaGreatDoor.Aes

