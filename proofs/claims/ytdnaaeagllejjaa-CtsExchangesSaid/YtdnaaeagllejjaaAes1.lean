/-
  The block cipher, first part: doubling, multiplying, and the places that shifting takes.
-/
import Derived.Test.YtdnaaeagllejjaaEng30
import Derived.Test.YtdnaaeagllejjaaProg
namespace Go.Proofs.Ytdnaaeagllejjaa.Aes
open Go.Sim
open Go.Proofs
variable {α : Type}

theorem progOK : ProgOK Try.prog := by
  refine ⟨?_, by kernel_rfl⟩
  have h : (Try.prog.funcs.all fun fn => !(fn.body.isSome && fn.name == "runtime.NumGoroutine")) = true := by kernel_rfl
  intro f fn hf hb
  have := Array.all_eq_true'.1 h fn (Array.mem_of_getElem? hf)
  rw [hb] at this
  simpa using this
/-- a simulator that takes these summaries -/
noncomputable def cfgG (glob : Nat → Option Nat) (s : FuncId → Option Summ) : Cfg := { P := Try.prog, glob := glob, sums := s, stopAt := none }
noncomputable def cfgOf (s : FuncId → Option Summ) : Cfg := cfgG (fun _ => none) s
noncomputable def sumsOf (l : List (FuncId × Summ)) : FuncId → Option Summ := List.rec (motive := fun _ => FuncId → Option Summ) (fun _ => none) (fun a _ ih f => boolC (Nat.beq f a.1) (some a.2) (ih f)) l
theorem sumsG_ok {glob : Nat → Option Nat} : ∀ {l : List (FuncId × Summ)}, (∀ x ∈ l, SumAt Try.prog glob x.1 x.2) → CfgOK (cfgG glob (sumsOf l))
  | [], _ => ⟨progOK, fun _ _ h => by cases h⟩
  | a :: l, hl => ⟨progOK, fun f s h => by
      rcases boolC_some (show boolC (Nat.beq f a.1) (some a.2) (sumsOf l f) = some s from h) with ⟨hf, h⟩ | h
      · cases h; rw [beq_spec hf]; exact hl a List.mem_cons_self
      · exact (sumsG_ok (l := l) fun x hx => hl x (List.mem_cons_of_mem _ hx)).sums f s h⟩
theorem sumsOf_ok {l : List (FuncId × Summ)} (h : ∀ x ∈ l, SumOK Try.prog x.1 x.2) : CfgOK (cfgOf (sumsOf l)) := sumsG_ok fun x hx => h x hx _
theorem all1 {x : FuncId × Summ} (h : SumOK Try.prog x.1 x.2) : ∀ y ∈ [x], SumOK Try.prog y.1 y.2 := by simpa using h
theorem allC {x : FuncId × Summ} {l : List (FuncId × Summ)} (h : SumOK Try.prog x.1 x.2) (h' : ∀ y ∈ l, SumOK Try.prog y.1 y.2) : ∀ y ∈ x :: l, SumOK Try.prog y.1 y.2 := by
  intro y hy
  rcases List.mem_cons.1 hy with rfl | hy
  · exact h
  · exact h' y hy
noncomputable def cfg0 : Cfg := cfgOf (sumsOf [])
theorem cfg0OK : CfgOK cfg0 := sumsOf_ok (by simp)
noncomputable def byteR (x : BitVec 8) : R SumRes := .ok ⟨.int .u8 (.b8 x), [], []⟩

def dbl (x : BitVec 8) : BitVec 8 := if 128 ≤ x.toNat then x <<< 1 ^^^ 27#8 else x <<< 1
noncomputable def dblS : Summ := fun args _ _ => args1 args fun v => optC (unb1 v) (.stuck 600) fun x => byteR (dbl x)
theorem dbl_run (x : BitVec 8) : callSim cfg0 100 45 [.int .u8 (.b8 x)] [] = .fork (decide ((x.toNat : Int) ≥ 128)) (.done (.int .u8 (.b8 (x <<< 1 ^^^ BitVec.ofInt 8 27))) []) (.done (.int .u8 (.b8 (x <<< 1))) []) := by kernel_rfl
theorem dblOK : SumOK Try.prog 45 dblS := by
  intro glob O w0 β H w base args vs hH hG ha
  refine args1_sat fun v hv => optC_only fun x hx => ?_
  subst hv
  refine sum_run cfg0OK rfl 100 hH ⟨[], [], [.int .u8 (.b8 x)]⟩ (denL1 ha (unb1_imp hx)) (fits0 rfl) [] (by simp) (by simp) ?_
  rw [dbl_run]
  refine ⟨fun h => ?_, fun h => ?_⟩
  · have e : dbl x = x <<< 1 ^^^ BitVec.ofInt 8 27 := by
      have : 128 ≤ x.toNat := by have := of_decide_eq_true h; omega
      unfold dbl; rw [if_pos this]; rfl
    rw [e]; exact ends0 rfl rfl rfl
  · have e : dbl x = x <<< 1 := by
      have : ¬ 128 ≤ x.toNat := by have := of_decide_eq_false h; omega
      unfold dbl; rw [if_neg this]
    rw [e]; exact ends0 rfl rfl rfl

/- The products. -/
def m9 (x : BitVec 8) : BitVec 8 := x ^^^ dbl (dbl (dbl x))
def m11 (x : BitVec 8) : BitVec 8 := x ^^^ dbl x ^^^ dbl (dbl (dbl x))
def m13 (x : BitVec 8) : BitVec 8 := x ^^^ dbl (dbl x) ^^^ dbl (dbl (dbl x))
def m14 (x : BitVec 8) : BitVec 8 := dbl x ^^^ dbl (dbl x) ^^^ dbl (dbl (dbl x))
def m3 (x : BitVec 8) : BitVec 8 := x ^^^ dbl x
noncomputable def timesL (n : Int) (x : BitVec 8) : R SumRes :=
  boolC (eqI n 1) (byteR x) (boolC (eqI n 2) (byteR (dbl x)) (boolC (eqI n 3) (byteR (m3 x)) (boolC (eqI n 9) (byteR (m9 x)) (boolC (eqI n 11) (byteR (m11 x)) (boolC (eqI n 13) (byteR (m13 x)) (boolC (eqI n 14) (byteR (m14 x)) (.stuck 601)))))))
noncomputable def timesS : Summ := fun args _ _ => args2 args fun u v => optC (unl1 u) (.stuck 601) fun n => optC (unb1 v) (.stuck 601) fun x => timesL n x
noncomputable def cfg1 : Cfg := cfgOf (sumsOf [(45, dblS)])
theorem cfg1OK : CfgOK cfg1 := sumsOf_ok (all1 dblOK)
theorem times_run (x : BitVec 8) :
    callSim cfg1 400 47 [.int .u8 (.lit 1), .int .u8 (.b8 x)] [] = .done (.int .u8 (.b8 (BitVec.ofInt 8 0 ^^^ x))) [] ∧
    callSim cfg1 400 47 [.int .u8 (.lit 2), .int .u8 (.b8 x)] [] = .done (.int .u8 (.b8 (BitVec.ofInt 8 0 ^^^ dbl x))) [] ∧
    callSim cfg1 400 47 [.int .u8 (.lit 3), .int .u8 (.b8 x)] [] = .done (.int .u8 (.b8 (BitVec.ofInt 8 0 ^^^ x ^^^ dbl x))) [] ∧
    callSim cfg1 400 47 [.int .u8 (.lit 9), .int .u8 (.b8 x)] [] = .done (.int .u8 (.b8 (BitVec.ofInt 8 0 ^^^ x ^^^ dbl (dbl (dbl x))))) [] ∧
    callSim cfg1 400 47 [.int .u8 (.lit 11), .int .u8 (.b8 x)] [] = .done (.int .u8 (.b8 (BitVec.ofInt 8 0 ^^^ x ^^^ dbl x ^^^ dbl (dbl (dbl x))))) [] ∧
    callSim cfg1 400 47 [.int .u8 (.lit 13), .int .u8 (.b8 x)] [] = .done (.int .u8 (.b8 (BitVec.ofInt 8 0 ^^^ x ^^^ dbl (dbl x) ^^^ dbl (dbl (dbl x))))) [] ∧
    callSim cfg1 400 47 [.int .u8 (.lit 14), .int .u8 (.b8 x)] [] = .done (.int .u8 (.b8 (BitVec.ofInt 8 0 ^^^ dbl x ^^^ dbl (dbl x) ^^^ dbl (dbl (dbl x))))) [] := by
  refine ⟨?_, ?_, ?_, ?_, ?_, ?_, ?_⟩ <;> kernel_rfl
theorem timesOK : SumOK Try.prog 47 timesS := by
  intro glob O w0 β H w base args vs hH hG ha
  refine args2_sat fun u v hv => optC_only fun n hn => optC_only fun x hx => ?_
  subst hv
  have hu := unl1_spec hn
  subst hu
  obtain ⟨h1, h2, h3, h9, h11, h13, h14⟩ := times_run x
  have key : ∀ (m : Int) (y z : BitVec 8) (o : R SumRes), callSim cfg1 400 47 [.int .u8 (.lit m), .int .u8 (.b8 x)] [] = .done (.int .u8 (.b8 z)) [] → z = y → o.Sat (SumSem Try.prog H β w base 47 vs) →
      (boolC (eqI n m) (byteR y) o).Sat (SumSem Try.prog H β w base 47 vs) := by
    intro m y z o hrun hz ho
    refine boolC_sat (fun hm => ?_) fun _ => ho
    have hn := eqI_spec hm
    subst hn; subst hz
    refine sum_run cfg1OK rfl 400 hH ⟨[], [], [.int .u8 (.lit n), .int .u8 (.b8 x)]⟩ (impL_cons (.refl _) (impL_cons (unb1_imp hx) impL_nil) _ _ ha) (fits0 rfl) [] (by simp) (by simp) ?_
    rw [hrun]
    exact ends0 rfl rfl rfl
  have z0 : BitVec.ofInt 8 0 = 0#8 := by rfl
  rw [z0] at h1 h2 h3 h9 h11 h13 h14
  refine key 1 _ _ _ h1 (by simp) (key 2 _ _ _ h2 (by simp) (key 3 _ _ _ h3 (by simp [m3]) (key 9 _ _ _ h9 (by simp [m9]) (key 11 _ _ _ h11 (by simp [m11]) (key 13 _ _ _ h13 (by simp [m13]) (key 14 _ _ _ h14 (by simp [m14]) ?_))))))
  trivial

/- The place from which shifting takes a byte. -/
def shiftN (n : Nat) : Nat := (4 * (n / 4 + n % 4) + n % 4) % 16
noncomputable def shiftedS : Summ := fun args _ _ => args1 args fun v => optC (litI v) (.stuck 630) fun n => boolC (Nat.blt n 16) (.ok ⟨.int .i64 (.lit (.ofNat (shiftN n))), [], []⟩) (.stuck 630)
theorem shifted_run (n : Nat) (h : n < 16) : callSim cfg0 200 41 [.int .i64 (.lit (.ofNat n))] [] = .done (.int .i64 (.lit (.ofNat (shiftN n)))) [] := by
  have h' : n = 0 ∨ n = 1 ∨ n = 2 ∨ n = 3 ∨ n = 4 ∨ n = 5 ∨ n = 6 ∨ n = 7 ∨ n = 8 ∨ n = 9 ∨ n = 10 ∨ n = 11 ∨ n = 12 ∨ n = 13 ∨ n = 14 ∨ n = 15 := by omega
  rcases h' with rfl | rfl | rfl | rfl | rfl | rfl | rfl | rfl | rfl | rfl | rfl | rfl | rfl | rfl | rfl | rfl <;> (show (_ : Tree) = _) <;> kernel_rfl
theorem shiftedOK : SumOK Try.prog 41 shiftedS := by
  intro glob O w0 β H w base args vs hH hG ha
  refine args1_sat fun v hv => optC_only fun n hn => boolC_only fun hlt => ?_
  rw [hv, litI_spec hn] at ha
  refine sum_run cfg0OK rfl 200 hH ⟨[], [], [.int .i64 (.lit (.ofNat n))]⟩ ha (fits0 rfl) [] (by simp) (by simp) ?_
  rw [shifted_run n (blt_spec hlt)]
  exact ends0 rfl rfl rfl

end Go.Proofs.Ytdnaaeagllejjaa.Aes
