/-
  RouteLines: the law's own runs.
-/
import Derived.Test.YtbhhagnpgkjmgaaDoorPk9
namespace Go.Proofs.YtbhhagnpgkjmgaaDoor.Aes
open Go.Sim
open Go.Proofs
variable {α : Type}

set_option maxRecDepth 1000000
noncomputable def rlnT (x y o : ByteArray) (v : SV) (H : List SO) : Tree := callSim cfgRW 20000 3 [.str (.sym x), .str (.sym y), .str (.sym o), v] H
section
variable (t : Ss) (k : Nat) (x y o : ByteArray) (c b : Bool)
noncomputable def rlX : Tree := rlnT x y o ((t.pl k).val 0) [t.row]
noncomputable def rlZ : Tree := rlnT x y o .nilSlice []
noncomputable def appL {β : Type} (l : List (List β)) : List β := List.rec (motive := fun _ => List β) [] (fun a _ ih => app a ih) l
/- Which way. h: no realm, no common one, one above the other, neither; s: bad, too long, put behind, nothing, az it was. -/
noncomputable def drH (h : Nat) : List Bool := natC h [false] fun h => natC h [true, false] fun h => natC h [true, true, true] fun _ => [true, true, false]
noncomputable def drR (h : Nat) : List Bool := natC h [false] fun h => natC h [true, false] fun _ => [true, true]
noncomputable def drT (s : Nat) : List Bool := natC s [false] fun s => natC s [true, true] fun s => natC s [true, false, true] fun s => natC s [true, false, false, true] fun _ => [true, false, false, false]
noncomputable def drS : List Bool := boolC c (repN false 5) (false :: true :: true :: [])
noncomputable def drD (d : List Bool) (h s : Nat) : List Bool := appL [[false, false, true, c], drH h, drR h, [true, true], drS c, d, drT s, drT s, boolC c [true] [], [true, true, true]]
noncomputable def drX (d : List Bool) (s : Nat) : List Bool := appL [[false, false, false, false, false, false], d, drT s, drT s, [true, true, true]]
/- What is asked. -/
noncomputable def sz1 : Prop := x.size ≤ 9223372036854775807
noncomputable def sz2 : Prop := x.size ≤ 9223372036854775807 ∧ y.size ≤ 9223372036854775807
noncomputable def cdG (g : List Prop) (w : Ss) : List Prop := appL [g, [(w.n : Int) ≤ 20 → w.ok, (!cB (fewP w 20)) = false, ((thrSs x y o).n : Int) ≤ 3 → (thrSs x y o).ok, (!cB (fewP (thrSs x y o) 3)) = false]]
noncomputable def cdH (h : Nat) : List Prop := natC h [(rlmB x && rlmB y) = false, (rlmB x && rlmB y) = false, sz2 x y] fun h => natC h [(rlmB x && rlmB y) = true, comB x y = false, (rlmB x && rlmB y) = true, comB x y = false] fun h =>
  [(rlmB x && rlmB y) = true, comB x y = true, decide (cK x y = 0) = natC h true (fun _ => false), (rlmB x && rlmB y) = true, comB x y = true]
noncomputable def cdS : List Prop := boolC c (((!(parB x == true)) = false) :: repN ((!parB x) = false) 4) (((!(parB x == false)) = false) :: repN ((!parB x) = true) 2)
noncomputable def cdB : List Prop := appL [[t.o + t.n ≤ t.N, decide (t.n = 0) = b], boolC b [1 = 1] [((t.n * 16 < 140737488355328 ∧ t.n < 140737488355328) ∧ 1 = 1)]]
noncomputable def cdT (s : Nat) (u : Ss) : List Prop := trOk u x y o :: (okT u x y o = natC s false (fun _ => true)) :: natC s [] fun s => (decide ((trN u x y o : Int) > 16) = natC s true (fun _ => false)) :: natC s [] fun s => (apB u x y o = natC s true (fun _ => false)) :: natC s [] fun s => [decide (u.n = 0) = natC s true (fun _ => false)]
noncomputable def uSs : Ss := boolC b em0 (clSs t)
noncomputable def hpL : Ss := ⟨suf x, Nat.succ (dep x), 0, cI x y + 1, false, cI x y + 1⟩
noncomputable def hgL : Ss := ⟨hieS x y, hieN x y, 0, hieN x y, true, 0⟩
noncomputable def samC (u w : Ss) : List Prop := [u.ok ∧ w.ok, cB (sameP u w) = true]
noncomputable def cdP (h : Nat) : List Prop := natC h (samC nilSs nilSs) fun h => natC h (samC nilSs nilSs) fun h => natC h (IsS (strF (suf x)) :: IsS (strF (hieS x y)) :: samC (hpL x y) (hgL x y)) fun _ => (IsS (strF (hieS x y)) :: IsS (strF (hieS x y)) :: samC (hgL x y) (hgL x y))
noncomputable def apL (u : Ss) : Ss := ⟨addS u y, u.n + 1, 0, u.n + 1, true, 0⟩
noncomputable def liL (u : Ss) : Ss := ⟨u.at, u.n, 0, u.n, true, 0⟩
noncomputable def cdQ (s : Nat) (u w : Ss) : List Prop := natC s (samC nilSs nilSs) fun s => natC s (samC nilSs nilSs) fun s => natC s (IsS (strF (addS u y)) :: IsS (strF (addS w y)) :: samC (apL y u) (apL y w)) fun s => natC s (samC em0 em0) fun _ => (IsS (strF u.at) :: IsS (strF w.at) :: samC (liL u) (liL w))
noncomputable def cdF (g e : List Prop) (u w : Ss) : List Prop := appL [e, g, samC u w]
noncomputable def cdE (B g e : List Prop) (s : Nat) (u w : Ss) : List Prop := appL [B, e, cdT x y o s u, g, cdT x y o s w]
noncomputable def rlD (B g e : List Prop) (u w : Ss) (h s : Nat) : List Prop := appL [cdG x y o g w, [rlmB x = true, cutF x = c, sz1 x], cdH x y h, [(rlmB x && rlmB x) = true, comB x x = true], cdS x c, cdE x y o B g e s u w, boolC c [decide (suf x 1 = cutB x) = true] [], cdP x y h, cdQ y s u w, cdF g e u w]
noncomputable def rlB (B g e : List Prop) (u w : Ss) (s : Nat) : List Prop := appL [cdG x y o g w, [rlmB x = false, sz1 x, (rlmB x && rlmB y) = false, (rlmB x && rlmB y) = false, sz2 x y, (rlmB x && rlmB x) = false, sz2 x x], cdE x y o B g e s u w, samC nilSs nilSs, cdQ y s u w, cdF g e u w]
noncomputable def rlV : Option (SV × List (Option SO)) := some (.bool (.lit true), [])
noncomputable def gT : List Prop := [IsS (strF t.S)]
noncomputable def eT : List Prop := boolC b [] [IsS (clF t)]
theorem rl_bad : mapN (fun s => outO [] (rlX t k x y o) (drX [b] s)) (fromN 5 0) = mapN (fun s => (rlB x y o (cdB t b) (gT t) (eT t b) (uSs t b) (t.pl k) s, rlV)) (fromN 5 0) := by cases b <;> kernel_rfl
theorem rl_ok : mapN (fun h => mapN (fun s => outO [] (rlX t k x y o) (drD c [b] h s)) (fromN 5 0)) (fromN 4 0) = mapN (fun h => mapN (fun s => (rlD x y o c (cdB t b) (gT t) (eT t b) (uSs t b) (t.pl k) h s, rlV)) (fromN 5 0)) (fromN 4 0) := by cases b <;> cases c <;> kernel_rfl
theorem rz_bad : mapN (fun s => outO [] (rlZ x y o) (drX [] s)) (fromN 5 0) = mapN (fun s => (rlB x y o [] [] [] em0 nilSs s, rlV)) (fromN 5 0) := by kernel_rfl
theorem rz_ok : mapN (fun h => mapN (fun s => outO [] (rlZ x y o) (drD c [] h s)) (fromN 5 0)) (fromN 4 0) = mapN (fun h => mapN (fun s => (rlD x y o c [] [] [] em0 nilSs h s, rlV)) (fromN 5 0)) (fromN 4 0) := by cases c <;> kernel_rfl
noncomputable def fewR (w : Ss) (b2 : Bool) : List Prop := boolC b2 [(w.n : Int) ≤ 20 → w.ok, (!cB (fewP w 20)) = false, ((thrSs x y o).n : Int) ≤ 3 → (thrSs x y o).ok, (!cB (fewP (thrSs x y o) 3)) = true] (((w.n : Int) ≤ 20 → w.ok) :: repN ((!cB (fewP w 20)) = true) 7)
theorem rl_few : outO [] (rlX t k x y o) (boolC b [false, true] (repN true 7)) = (app (gT t) (fewR x y o (t.pl k) b), rlV) := by cases b <;> kernel_rfl
theorem rz_few : outO [] (rlZ x y o) (boolC b [false, true] (repN true 7)) = (fewR x y o nilSs b, rlV) := by cases b <;> kernel_rfl
end
end Go.Proofs.YtbhhagnpgkjmgaaDoor.Aes

