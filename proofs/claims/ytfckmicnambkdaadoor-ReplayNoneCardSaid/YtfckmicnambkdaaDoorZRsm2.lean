/-
  The reference's hash: Sum.
-/
import Derived.Test.YtfckmicnambkdaaDoorPk8
namespace Go.Proofs.YtfckmicnambkdaaDoor.Aes
open Go.Sim
open Go.Proofs
variable {α : Type}

section
variable (X : Nat → BitVec 8) (N o n m : Nat)
noncomputable def rsmArgs : List SV := [.slice ⟨4, .sym o⟩ (.sym n) (.sym m)]
noncomputable def rsmS0 : SS := stopOf (callSim (cfgR2.at (some (1, 3))) 4000 29 (rsmArgs o n m) (sumEnts X N)) []
structure RsmA where
  i : Int
  V : List W32
noncomputable def padX (X : Nat → BitVec 8) (o n : Nat) : Nat → BitVec 8 := padF (fun i => X (o + i)) n n
noncomputable def rsmC (A : RsmA) : Cut :=
  ⟨bareFs (rsmS0 X N o n m).frames [[(2, .ptr ⟨5, .lit 0⟩), (3, .ptr ⟨6, .lit 0⟩), (4, .slice ⟨7, .lit 0⟩ (.sym (lenP n)) (.rest 7 0)), (5, .int .i64 (.sym A.i))]],
   [.ent startR, .ent constR, .ent rconV, .ent rconR, .ent (rowF X N), entN (rsmS0 X N o n m).heap 5, .ent (.own (.lst (ux (eight A.V))) true 90), .ent (.own (.fn (byteF (padX X o n)) (lenP n)) false 5)]⟩
noncomputable def rsmNs : List Nat := fromN 8 0
theorem rsm_init (z : Nat → Nat → Nat) : outL [] (rsmC X N o n m ⟨0, startV⟩) rsmNs (callSim (cfgR2.at (some (1, 3))) 4000 29 (rsmArgs o n m) (sumEnts X N)) [] z =
    ([IsB (byteF X), o + n ≤ N ∧ n ≤ 1099511627776], some (.inr (modSeen [(0, 5, .int .i64 (.lit 0))] [(6, .ent (.own (.lst (kx .i64 startL)) true 90))] (seenC rsmNs 8 (rsmC X N o n m ⟨0, startV⟩))))) := by kernel_rfl
theorem rsm_names (A B : RsmA) : boolC (namesOK 5 rsmNs (rsmC X N o n m A) (rsmC X N o n m B)) (allN noLoopE (rsmC X N o n m B).heap) false = true := by kernel_rfl
theorem rsm_tmp (A : RsmA) : (((rsmC X N o n m A).frames[0]?).bind fun p => p.tmps[5]?) = some (some (.int .i64 (.sym A.i))) := by kernel_rfl
theorem rsm_end (A : RsmA) (J : Junk) (z : Nat → Nat → Nat) : outL [] (rsmC X N o n m A) rsmNs (sim1 (cfgR2.at none) 8000 ((rsmC X N o n m A).fill J)) [false] z =
    ([decide (A.i < (lenP n : Int)) = false], some (.inl (.agg (bx (hashB A.V)), []))) := by kernel_rfl
noncomputable def cRsm (L : Nat) (i : Int) (P : Nat → BitVec 8) : List Prop :=
  [decide (i < (L : Int)) = true, inI64 (i + 64), 0 ≤ i + 64 ∧ i + 64 ≤ (L : Int), 0 ≤ i ∧ i ≤ ((i + 64).toNat : Int), 0 < (i + 64).toNat - i.toNat, decide ((i + 64).toNat - i.toNat = 64) = true, IsB (byteF P), 0 + i.toNat * 1 + 64 ≤ L, inI64 (i + 64)]
theorem rsm_turn (A : RsmA) (J : Junk) (z : Nat → Nat → Nat) : outL [] (rsmC X N o n m A) rsmNs (sim1 (cfgR2.at (some (1, 3))) 4000 ((rsmC X N o n m A).fill J)) [true, true] z =
    (cRsm (lenP n) A.i (padX X o n), some (.inr (seenC rsmNs 8 (rsmC X N o n m ⟨A.i + 64, cmpW (eight A.V) (words16 (padX X o n) (0 + A.i.toNat * 1))⟩)))) := by kernel_rfl
end
theorem rsm_nil : outO [] (callSim cfgR2 8000 29 [.nilSlice] (shaH [])) [true, false] =
    ([decide ((0 : Int) < (lenP 0 : Int)) = true, 64 ≤ lenP 0, IsB (byteF (padF (fun _ => 0#8) 0 0)), 0 + 64 ≤ lenP 0, decide ((64 : Int) < (lenP 0 : Int)) = false], some (.agg (bx (hashB (cmpW (eight startV) (words16 (padF (fun _ => 0#8) 0 0) 0)))), [])) := by kernel_rfl
section
variable {X : Nat → BitVec 8} {N o n m : Nat}
structure RsmQ (X : Nat → BitVec 8) (o n : Nat) (A : RsmA) (k : Nat) : Prop where
  i : A.i = ((64 * k : Nat) : Int)
  le : k ≤ (n + 72) / 64
  V : A.V = iterW startV (padX X o n) k
theorem startI_imp {f : Nat → Nat} : ImpE f (some (.ent (.own (.lst (kx .i64 startL)) true 90))) (.ent (.own (.lst (ux (eight startV))) true 90)) := by
  refine ⟨_, rfl, ?_⟩
  show SV.ImpL _ (SV.renL f (ux (eight startV)))
  rw [ux_ren]
  exact unI_imp (by kernel_rfl)
theorem rsm_runs (hN : o + n ≤ N) (hn : n ≤ 1099511627776) : Runs cfgR2 29 (rsmArgs o n m) (sumEnts X N) fun v _ => v = .agg (bx (shaF (fun i => X (o + i)) n)) := by
  have hb := lenP_bounds n
  have hL : lenP n = 64 * ((n + 72) / 64) := rfl
  refine runs_by cfgR2OK (rsmC X N o n m) (fun A => ∃ k, RsmQ X o n A k) (fun A => lenP n - A.i.toNat) (fun g nm hg => Nat.lt_of_lt_of_le (globS_lt hg) (by show 3 ≤ 5; omega)) ?_ fun A ⟨k, hA⟩ J => ?_
  · refine to_startM (some (1, 3)) 4000 ⟨0, startV⟩ ⟨0, rfl, Nat.zero_le _, rfl⟩ (rsm_init X N o n m) (rsm_names X N o n m _ _) ?_ ?_ (all_cons (byteF_isB X) (all_cons ⟨hN, hn⟩ all_nil))
    · intro e he p u hp hu
      rw [List.mem_singleton] at he; subst he
      exact tmp_imp (rsm_tmp X N o n m _) hp hu (int_imp rfl)
    · intro e he E0 hE
      rw [List.mem_singleton] at he; subst he
      cases hE
      exact startI_imp
  · obtain ⟨h1, h2, h3⟩ := hA
    by_cases hk : k < (n + 72) / 64
    · refine to_turn (some (1, 3)) 4000 ⟨A.i + 64, cmpW (eight A.V) (words16 (padX X o n) (0 + A.i.toNat * 1))⟩ ⟨⟨k + 1, by show A.i + 64 = _; omega, by omega, ?_⟩, ?_⟩ (rsm_turn X N o n m A J) (rsm_names X N o n m _ _) ?_
      · show cmpW (eight A.V) (words16 (padX X o n) (0 + A.i.toNat * 1)) = iterW startV (padX X o n) (k + 1)
        rw [iterW_succ, show 0 + A.i.toNat * 1 = 64 * k from by omega, h3]
      · show lenP n - (A.i + 64).toNat < lenP n - A.i.toNat
        omega
      · exact all_cons (decide_eq_true (by omega)) (all_cons ⟨by omega, by omega⟩ (all_cons ⟨by omega, by omega⟩ (all_cons ⟨by omega, by omega⟩ (all_cons (by omega) (all_cons (decide_eq_true (by omega)) (all_cons (byteF_isB _) (all_cons (by omega) (all_cons ⟨by omega, by omega⟩ all_nil))))))))
    · refine to_end none 8000 (rsm_end X N o n m A J) (all_cons (decide_eq_false (by omega)) all_nil) fun H _ => ?_
      show SV.agg (bx (hashB A.V)) = _
      rw [h3, show k = (n + 72) / 64 from by omega]; rfl
end
/-- what is hashed, of so many bytes at most -/
noncomputable def hashM (F : (Nat → BitVec 8) → Nat → List (BitVec 8)) (mx : Nat) : Summ := fun args H _ => args1 args fun v => shaT H (sliceR v (.ok ⟨.agg (bx (F (fun _ => 0#8) 0)), [], []⟩) fun a l => boolC (newOne a.nm) (bytesE (nth H a.nm) fun X N => .need (a.off.den + l.den ≤ N ∧ l.den ≤ mx) (.ok ⟨.agg (bx (F (fun i => X (a.off.den + i)) l.den)), [], []⟩)) (.stuck 740))
theorem rsmOK : SumAt Tryd.prog globS 29 (hashM shaF 1099511627776) := by
  intro O w0 β H w base args vs hH hG ha
  refine args1_sat fun v hv => shaT_sat fun hT => sliceR_sat (fun hn => ?_) fun a l c hs => boolC_only fun hn => bytesE_sat fun X N ht => fun hle => ?_
  · rw [hv, hn] at ha
    refine sum_outOG cfgR2OK 8000 hH (shaI [] [] [.nilSlice]) (shaI_glob hG) ha (Ifc.fits (by simp [shaI]) rfl (shaI_ents hT trivial)) [] (by simp) (by simp) rsm_nil ?_ fun _ _ => endsV rfl ?_
    · exact all_cons (by decide) (all_cons (by decide) (all_cons (byteF_isB _) (all_cons (by decide) (all_cons (by decide) all_nil))))
    · unfold shaF
      rw [show (0 + 72) / 64 = 0 + 1 from rfl, iterW_succ]; rfl
  · rw [hv, hs] at ha
    rw [nth_eq] at ht
    obtain ⟨x, ys, hx, hys, rfl⟩ := denL_cons.1 ha
    obtain ⟨m, hm, hd, _, _⟩ := slice_den hx
    exact Go.Sim.sum_runs (c := cfgR2) hH (shaI [a.nm] [rowF X N] (rsmArgs a.off.den l.den m)) (shaI_glob hG) (denL_cons.2 ⟨_, _, hd, hys, rfl⟩) (Ifc.fits (nd5 hn) rfl (shaI_ents hT ⟨⟨ht _, rowF_uses _ _ _⟩, trivial⟩)) [] (by simp) (by simp)
      (runs_mono (rsm_runs hle.1 hle.2) fun v H h => endsV rfl h)
end Go.Proofs.YtfckmicnambkdaaDoor.Aes

