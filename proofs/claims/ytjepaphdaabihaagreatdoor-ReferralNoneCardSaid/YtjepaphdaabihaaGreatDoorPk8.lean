/-
  Texts behind one another: the symbolic simulator and what it is told of the program.
-/
import Derived.Test.YtjepaphdaabihaaGreatDoorZRfn5

/-
  ReferralNone: what the law's runs are told.
-/
namespace Go.Proofs.YtjepaphdaabihaaGreatDoor.Aes
open Go.Sim
open Go.Proofs
variable {α : Type}

noncomputable def rfN : List (FuncId × Summ) := (5, trueS) :: rfH
noncomputable def cfgRN : Cfg := cfgOf (sumsOf rfN)
theorem cfgRNOK : CfgOK cfgRN := sumsOf_ok (allC kn37OK rfHOK)
end Go.Proofs.YtjepaphdaabihaaGreatDoor.Aes


/-
  ReferralNone: nil host maps, maps and databases answer as stated: the law's own runs.
-/
namespace Go.Proofs.YtjepaphdaabihaaGreatDoor.Aes
open Go.Sim
open Go.Proofs
open Go.RowKit
variable {α : Type}

set_option maxRecDepth 1000000
noncomputable def rnA (b : Bool) (n c : Nat) (r s t : ByteArray) : List SV := [.agg [slB b 0 n c, .str (.sym r)], .str (.sym s), .str (.sym t)]
noncomputable def rnH (b : Bool) (S : Nat → ByteArray) (k : Nat) : List SO := [boolC b (rowSt S k) .gone]
noncomputable def rnT (c : Cfg) (b : Bool) (S : Nat → ByteArray) (k n cc : Nat) (r s t : ByteArray) : Tree := callSim c 20000 3 (rnA b n cc r s t) (rnH b S k)
noncomputable def entH (H : List SO) (j : Nat) : HP := optC (nth H j) (.ent .gone) HP.ent
noncomputable def yesO : Option (SV × List (Option SO)) := some (.bool (.lit true), [])
noncomputable def yes : Option ((SV × List (Option SO)) ⊕ Seen) := some (.inl (.bool (.lit true), []))
noncomputable def big (s : ByteArray) : Bool := decide ((s.size : Int) > 60)
section
variable (S : Nat → ByteArray) (k n c : Nat) (r s t : ByteArray)
theorem rn_n1 : outO [] (rnT cfgRN false S k n c r s t) (repN true 8) = (repN (big r = true) 1, yesO) := by kernel_rfl
theorem rn_n2 : outO [] (rnT cfgRN false S k n c r s t) (false :: repN true 8) = ((big r = false) :: repN (big s = true) 4, yesO) := by kernel_rfl
theorem rn_n3 : outO [] (rnT cfgRN false S k n c r s t) [false, false, true] = ([big r = false, big s = false, big t = true], yesO) := by kernel_rfl
theorem rn_n4 : outO [] (rnT cfgRN false S k n c r s t) [false, false, false] = ([big r = false, big s = false, big t = false], yesO) := by kernel_rfl
theorem rn_s1 : outO [] (rnT cfgRN true S k n c r s t) (repN true 8) = (repN (decide ((n : Int) > 8) = true) 8, yesO) := by kernel_rfl
theorem rn_s2 : outO [] (rnT cfgRN true S k n c r s t) [false, true] = ([decide ((n : Int) > 8) = false, big r = true], yesO) := by kernel_rfl
noncomputable def rnS0 : SS := stopOf (rnT (cfgRN.at (some (2, 7))) true S k n c r s t) [false, false]
noncomputable def rnC (j : Nat) : Cut := ⟨bareFs (rnS0 S k n c r s t).frames [[(0, .slice ⟨3, .lit 0⟩ (.lit 1) (.lit 1)), (1, .int .i64 (.lit 1)), (5, .int .i64 (.lit 0)), (6, .int .i64 (.sym j))], [(1, .str (.sym s)), (2, .str (.sym t)), (3, .ptr ⟨1, .lit 0⟩), (6, .ptr ⟨2, .lit 0⟩)]], mapN (entH (rnS0 S k n c r s t).heap) [0, 1, 2, 3]⟩
noncomputable def rnM : List Nat := [0, 1, 2, 3]
theorem rn_init (z : Nat → Nat → Nat) : outL [] (rnC S k n c r s t 0) rnM (rnT (cfgRN.at (some (2, 7))) true S k n c r s t) [false, false] z = ([decide ((n : Int) > 8) = false, big r = false], some (.inr (modSeen [(0, 6, .int .i64 (.lit 0))] [] (seenC rnM 4 (rnC S k n c r s t 0))))) := by kernel_rfl
noncomputable def rnIn (j : Nat) (q : List Prop) : List Prop := (decide ((j : Int) < (n : Int)) = true) :: ((0 : Int) ≤ (j : Int) ∧ (j : Int) < (n : Int)) :: (0 + j * 1 < k) :: q
theorem rn_turn (j : Nat) (J : Junk) (z : Nat → Nat → Nat) : outL [] (rnC S k n c r s t j) rnM (sim1 (cfgRN.at (some (2, 7))) 20000 ((rnC S k n c r s t j).fill J)) [true, false] z = (rnIn k n j [big (S (0 + j * 1)) = false, inI64 ((j : Int) + 1)], some (.inr (seenC rnM 4 (rnC S k n c r s t (j + 1))))) := by kernel_rfl
noncomputable def rnE (j : Nat) (J : Junk) (ds : List Bool) (z : Nat → Nat → Nat) : OutL := outL [] (rnC S k n c r s t j) rnM (sim1 (cfgRN.at none) 20000 ((rnC S k n c r s t j).fill J)) ds z
theorem rn_fail (j : Nat) (J : Junk) (z : Nat → Nat → Nat) : rnE S k n c r s t j J [true, true] z = (rnIn k n j [big (S (0 + j * 1)) = true], yes) := by kernel_rfl
theorem rn_e1 (j : Nat) (J : Junk) (z : Nat → Nat → Nat) : rnE S k n c r s t j J (false :: repN true 4) z = ((decide ((j : Int) < (n : Int)) = false) :: repN (big s = true) 4, yes) := by kernel_rfl
theorem rn_e2 (j : Nat) (J : Junk) (z : Nat → Nat → Nat) : rnE S k n c r s t j J [false, false, true] z = ([decide ((j : Int) < (n : Int)) = false, big s = false, big t = true], yes) := by kernel_rfl
theorem rn_e3 (j : Nat) (J : Junk) (z : Nat → Nat → Nat) : rnE S k n c r s t j J [false, false, false] z = ([decide ((j : Int) < (n : Int)) = false, big s = false, big t = false], yes) := by kernel_rfl
theorem rn_names (i j : Nat) : boolC (namesOK 1 rnM (rnC S k n c r s t i) (rnC S k n c r s t j)) (allN noLoopE (rnC S k n c r s t j).heap) false = true := by kernel_rfl
theorem rn_tmp (j : Nat) : (((rnC S k n c r s t j).frames[0]?).bind fun p => p.tmps[6]?) = some (some (.int .i64 (.sym j))) := by kernel_rfl
theorem rn_runs (h1 : n ≤ k) (h8 : n ≤ 8) (hr : big r = false) : Runs cfgRN 3 (rnA true n c r s t) (rnH true S k) fun v _ => v = .bool (.lit true) := by
  refine runs_by cfgRNOK (rnC S k n c r s t) (fun j => j ≤ n) (fun j => n - j) (fun g nm hg => by cases hg) ?_ fun j hj J => ?_
  · refine to_startM (some (2, 7)) 20000 0 (Nat.zero_le _) (rn_init S k n c r s t) (rn_names S k n c r s t 0 0) (fun m hm p u hp hu => ?_) (by simp) (all_cons (decide_eq_false (by omega)) (all_cons hr all_nil))
    obtain rfl : m = (0, 6, .int .i64 (.lit 0)) := by simpa using hm
    exact tmp_set (rn_tmp S k n c r s t 0) hp hu (int_impS rfl)
  · have hin : ∀ q : List Prop, j < n → (∀ p ∈ q, p) → ∀ p ∈ rnIn k n j q, p := fun q a h => all_cons (decide_eq_true (by omega)) (all_cons ⟨by omega, by omega⟩ (all_cons (by omega) h))
    by_cases hin1 : j < n
    · cases hs : big (S (0 + j * 1)) with
      | false => exact to_turn (some (2, 7)) 20000 (j + 1) ⟨by omega, by omega⟩ (rn_turn S k n c r s t j J) (rn_names S k n c r s t j (j + 1)) (hin _ hin1 (all_cons hs (all_cons ⟨by omega, by omega⟩ all_nil)))
      | true => exact to_end none 20000 (rn_fail S k n c r s t j J) (hin _ hin1 (all_cons hs all_nil)) fun H _ => rfl
    · have hj' : decide ((j : Int) < (n : Int)) = false := decide_eq_false (by omega)
      cases hs : big s with
      | true => exact to_end none 20000 (rn_e1 S k n c r s t j J) (all_cons hj' (rep_all hs 4)) fun H _ => rfl
      | false =>
        cases ht : big t with
        | true => exact to_end none 20000 (rn_e2 S k n c r s t j J) (all_cons hj' (all_cons hs (all_cons ht all_nil))) fun H _ => rfl
        | false => exact to_end none 20000 (rn_e3 S k n c r s t j J) (all_cons hj' (all_cons hs (all_cons ht all_nil))) fun H _ => rfl
end
theorem ref_law {w : World} {a : Option Addr} {l m : Nat} {S : Nat → ByteArray} {r s t : ByteArray} (h : StrRow w a l m S) :
    Calls Tryz.prog 3 #[.agg #[.slice a l m, .string r], .string s, .string t] w fun e w' => e = .returned (.bool true) ∧ Below w.heap.size w w' := by
  obtain ⟨β, b, hH, _, hl, hd⟩ := start_sl (HeapRel.start _ _ w) h
  have hd : (slB b 0 l m).den β = some (.slice a l m) := hd
  have ha : SV.denL β (rnA b l m r s t) = some [.agg #[.slice a l m, .string r], .string s, .string t] := by
    simp only [rnA, SV.denL, SV.den, hd, Option.map_some, Option.bind_some]
    rfl
  have hG : GlobRel (fun _ => Option.none) β := .none _
  have hH : HeapRel Tryz.prog (fun _ => False) w β (rnH b S m) w := hH
  cases b with
  | false =>
    cases hr : big r with
    | true => exact law_by cfgRNOK 20000 hH hG ha _ (rn_n1 S m l m r s t) (rep_all hr 1)
    | false =>
      cases hs : big s with
      | true => exact law_by cfgRNOK 20000 hH hG ha _ (rn_n2 S m l m r s t) (all_cons hr (rep_all hs 4))
      | false =>
        cases ht : big t with
        | true => exact law_by cfgRNOK 20000 hH hG ha _ (rn_n3 S m l m r s t) (all_cons hr (all_cons hs (all_cons ht all_nil)))
        | false => exact law_by cfgRNOK 20000 hH hG ha _ (rn_n4 S m l m r s t) (all_cons hr (all_cons hs (all_cons ht all_nil)))
  | true =>
    by_cases h8 : l ≤ 8
    · cases hr : big r with
      | true => exact law_by cfgRNOK 20000 hH hG ha _ (rn_s2 S m l m r s t) (all_cons (decide_eq_false (by omega)) (all_cons hr all_nil))
      | false => exact law_runs hH hG ha (rn_runs S m l m r s t hl h8 hr)
    · exact law_by cfgRNOK 20000 hH hG ha _ (rn_s1 S m l m r s t) (rep_all (decide_eq_true (by omega)) 8)
end Go.Proofs.YtjepaphdaabihaaGreatDoor.Aes

