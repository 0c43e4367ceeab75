/-
  AesSubstitutes: the substitutes, and the bytes that have them: runs.
-/
import Derived.Test.YtbgpdpeafdoomaaDoorAes8
import Derived.Test.YtbgpdpeafdoomaaDoorRefA4
namespace Go.Proofs.YtbgpdpeafdoomaaDoor.Aes
open Go.Sim
open Go.Proofs
variable {α : Type}

noncomputable def invT (x : BitVec 8) (l : List Nat) : Nat → Tree :=
  List.rec (motive := fun _ => Nat → Tree) (fun _ => .done (.int .u8 (.lit (.ofNat 0))) [tabR]) (fun n _ ih i => .fork (Int.ofNat n == (x.toNat : Int)) (.done (.int .u8 (.lit (.ofNat i))) [tabR]) (ih (Nat.succ i))) l
theorem rinv_run (x : BitVec 8) : callSim cfgR3 20000 9 [.int .u8 (.b8 x)] [tabR] = invT x subs 0 := by kernel_rfl
theorem recs_of : ((List.range 256).all fun i => Nat.beq ((tabN[256 + (subs[i]?).getD 0]?).getD 0) i) = true := by kernel_rfl
theorem subs_of : ((List.range 256).all fun n => Nat.beq ((subs[(tabN[256 + n]?).getD 0]?).getD 256) n) = true := by kernel_rfl
theorem subs_len : subs.length = 256 := by kernel_rfl
theorem tabB_nat' (i : Nat) : (tabB i).toNat = (tabN[i]?).getD 0 := by
  unfold tabB
  have : (tabN[i]?).getD 0 < 256 := by
    cases h : tabN[i]? with
    | none => simp
    | some n => exact tab_small n (List.mem_of_getElem? h)
  rw [BitVec.toNat_ofNat, Nat.mod_eq_of_lt (by omega)]
theorem invT_ob (x : BitVec 8) {D : SV → List SO → Prop} {S : SS → Prop} (hD : ∀ i : Nat, i = (recB x).toNat → D (.int .u8 (.lit (.ofNat i))) [tabR]) : ∀ (l : List Nat) (i : Nat), (∀ k, l[k]? = subs[i + k]?) → (∀ k, k < i → subs[k]? ≠ some x.toNat) → (invT x l i).Ob D S
  | [], i, hl, hno => by
    exfalso
    have h := List.all_eq_true.1 subs_of x.toNat (List.mem_range.2 x.isLt)
    have h := beq_spec h
    have h0 := hl 0
    simp at h0
    have hi : 256 ≤ i := by rw [subs_len] at h0; omega
    have hlt : (tabN[256 + x.toNat]?).getD 0 < 256 := by
      have := tabB_nat' (256 + x.toNat)
      have := (tabB (256 + x.toNat)).isLt
      omega
    refine hno ((tabN[256 + x.toNat]?).getD 0) (by omega) ?_
    cases hs : subs[(tabN[256 + x.toNat]?).getD 0]? with
    | none => rw [hs] at h; have := x.isLt; simp at h; omega
    | some m => rw [hs] at h; simp at h; rw [h]
  | n :: l, i, hl, hno => by
    have h0 := hl 0
    simp at h0
    refine ⟨fun hb => ?_, fun hb => ?_⟩
    · have hx : n = x.toNat := by
        have : (n : Int) = (x.toNat : Int) := by simpa using hb
        omega
      refine hD i ?_
      have hi : i < 256 := by
        rw [← subs_len]
        exact (List.getElem?_eq_some_iff.1 h0.symm).1
      have h := beq_spec (List.all_eq_true.1 recs_of i (List.mem_range.2 hi))
      rw [← h0] at h
      unfold recB
      rw [tabB_nat', ← hx]
      exact h.symm
    · refine invT_ob x hD l (i + 1) (fun k => ?_) fun k hk => ?_
      · have := hl (k + 1)
        rw [List.getElem?_cons_succ] at this
        rw [this, Nat.add_assoc, Nat.add_comm 1 k]
      · by_cases hki : k = i
        · subst hki
          rw [← h0]
          intro he
          have : n = x.toNat := Option.some.inj he
          rw [this] at hb; simp at hb
        · exact hno k (by omega)
noncomputable def rinvS : Summ := fun args H _ => args1 args fun v => optC (unb1 v) (.stuck 750) fun x => tabR0 H (byteR (recB x))
theorem rinvOK : SumAt Tryd.prog globR 9 rinvS := by
  intro O w0 β H w base args vs hH hG ha
  refine args1_sat fun v hv => optC_only fun x hx => tabR0_sat fun htab => ?_
  rw [hv] at ha
  refine sum_runG cfgR3OK 20000 hH ⟨[0], [tabR], [.int .u8 (.b8 x)]⟩ (glob_at rfl rfl hG) (denL1 ha (unb1_imp hx)) (Ifc.fits (by simp) rfl ⟨⟨htab _, tabR_uses _⟩, trivial⟩) [] (by simp) (by simp) ?_
  show (callSim cfgR3 20000 9 [.int .u8 (.b8 x)] [tabR]).Ob _ _
  have hrun := rinv_run x
  generalize callSim cfgR3 20000 9 [.int .u8 (.b8 x)] [tabR] = t at hrun ⊢
  rw [hrun]
  refine invT_ob x (fun i hi => ⟨fun γ y hy => ?_, rfl, trivial, trivial⟩) subs 0 (fun k => by rw [Nat.zero_add]) fun k hk => absurd hk (Nat.not_lt_zero _)
  have hy : some (Value.int .u8 (i : Int)) = some y := hy
  show some (Value.int .u8 ((recB x).toNat : Int)) = some y
  rw [← hi]; exact hy

noncomputable def cfgS : Cfg := cfgG globR (sumsOf [(11, newS), (14, cryptS encL), (15, cryptS decL), (44, idxS), (10, knownS),
  (13, rwordsS), (16, rcryptS encL), (17, rcryptS decL), (9, rinvS)])
theorem allA {l : List (FuncId × Summ)} {glob : Nat → Option Nat} {x : FuncId × Summ} (h : SumAt Tryd.prog glob x.1 x.2) (h' : ∀ y ∈ l, SumAt Tryd.prog glob y.1 y.2) : ∀ y ∈ x :: l, SumAt Tryd.prog glob y.1 y.2 := by
  intro y hy
  rcases List.mem_cons.1 hy with rfl | hy
  · exact h
  · exact h' y hy
theorem cfgSOK : CfgOK cfgS := sumsG_ok (allA (newOK _) (allA (encryptOK _) (allA (decryptOK _) (allA (idxOK _) (allA (knownOK _) (allA rwordsOK (allA rencOK (allA rdecOK (allA rinvOK (by simp))))))))))

end Go.Proofs.YtbgpdpeafdoomaaDoor.Aes
