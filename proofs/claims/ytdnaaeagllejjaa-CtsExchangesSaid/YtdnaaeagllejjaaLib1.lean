/-
  bytes.Clone: what it comes to.
-/
import Derived.Test.YtdnaaeagllejjaaAes1
import Derived.Test.YtdnaaeagllejjaaEng31
namespace Go.Proofs.Ytdnaaeagllejjaa.Aes
open Go.Sim
open Go.Proofs
variable {α : Type}

noncomputable def bytesFrom (X : Nat → BitVec 8) (o n : Nat) : List (BitVec 8) := mapN (fun i => X (o + i)) (fromN n 0)
theorem fromN_range : ∀ n k : Nat, fromN n k = List.range' k n := by
  intro n
  induction n with
  | zero => intro k; rfl
  | succ n ih => intro k; show k :: fromN n (k + 1) = _; rw [ih]; rfl
theorem bytesFrom_length (X : Nat → BitVec 8) (o n : Nat) : (bytesFrom X o n).length = n := by
  unfold bytesFrom
  rw [mapN_eq, fromN_range]; simp
theorem bytesFrom_get (X : Nat → BitVec 8) (o n i : Nat) (h : i < n) : (bytesFrom X o n)[i]? = some (X (o + i)) := by
  unfold bytesFrom
  rw [mapN_eq, fromN_range, List.getElem?_map, List.getElem?_range' h]; simp
theorem bx_den {γ : Val} : ∀ xs : List (BitVec 8), SV.denL γ (bx xs) = some (xs.map fun x => Value.int .u8 (x.toNat : Int))
  | [] => rfl
  | _ :: xs => denL_cons.2 ⟨_, _, rfl, bx_den xs, rfl⟩
/-- a row of bytes, one by one -/
theorem fn_imp_lst (X : Nat → BitVec 8) (o n : Nat) : (Cells.fn (fun i => byteF X (o + i)) n).Imp (.lst (bx (bytesFrom X o n))) := by
  intro γ vs h
  obtain ⟨h1, h2⟩ := h
  show SV.denL γ (bx (bytesFrom X o n)) = some vs
  rw [bx_den]
  congr 1
  apply List.ext_getElem?
  intro i
  rw [List.getElem?_map]
  by_cases hi : i < n
  · rw [bytesFrom_get X o n i hi]
    have hv : vs[i]? = some vs[i] := List.getElem?_eq_getElem (by omega)
    have := h2 i _ hv
    rw [hv]; exact this
  · rw [List.getElem?_eq_none (by rw [bytesFrom_length]; omega), List.getElem?_eq_none (by omega)]; rfl
theorem clone_run (X : Nat → BitVec 8) (o n k m : Nat) : outO [2] (callSim cfg0 6000 17 [.slice ⟨0, .sym o⟩ (.sym k) (.sym m)] [rowF X n]) [false] =
    ([o + k ≤ n, decide (k = 0) = false, roomy k 1 ∧ 1 = 1], some (.slice ⟨2, .lit 0⟩ (.sym k) (.rest 2 0), [some (.own (.fn (fun i => byteF X (o + i)) k) false 5)])) := by kernel_rfl
theorem clone_zero (X : Nat → BitVec 8) (o n k m : Nat) : outO [1] (callSim cfg0 6000 17 [.slice ⟨0, .sym o⟩ (.sym k) (.sym m)] [rowF X n]) [true] =
    ([o + k ≤ n, decide (k = 0) = true, 1 = 1], some (.slice ⟨1, .lit 0⟩ (.lit 0) (.lit 0), [some (.own (.lst []) true 5)])) := by kernel_rfl
theorem clone_nil : outP [] (callSim cfg0 6000 17 [.nilSlice] []) = ([], some (.nilSlice, [])) := by kernel_rfl
noncomputable def clone0 (n o base k : Nat) : R SumRes := .need (o + k ≤ n) (.ok ⟨.slice ⟨base, .lit 0⟩ (.lit 0) (.lit 0), [], [.own (.lst []) true 5]⟩)
noncomputable def cloneL (X : Nat → BitVec 8) (n o base k : Nat) : R SumRes := boolC (Nat.beq k 0) (clone0 n o base k) (boolC (Nat.blt k 70368744177664) (.need (o + k ≤ n) (.ok ⟨.slice ⟨base, .lit 0⟩ (.lit k) (.rest base 0), [], [.own (.lst (bx (bytesFrom X o k))) false 5]⟩)) (.stuck 760))
noncomputable def cloneV (X : Nat → BitVec 8) (n o base k : Nat) : R SumRes := .fork (decide (k = 0)) (clone0 n o base k) (.need (o + k ≤ n ∧ roomy k 1) (.ok ⟨.slice ⟨base, .lit 0⟩ (.sym k) (.rest base 0), [], [.own (.fn (fun i => byteF X (o + i)) k) false 5]⟩))
noncomputable def cloneS : Summ := fun args H base => args1 args fun v => sliceR v (.ok ⟨.nilSlice, [], []⟩) fun a l => bytesE (nth H a.nm) fun X n =>
  SN.rec (motive := fun _ => R SumRes) (fun k => cloneL X n a.off.den base k) (fun k => cloneV X n a.off.den base k) (fun _ _ => .stuck 761) l
theorem cloneOK : SumOK Try.prog 17 cloneS := by
  intro glob O w0 β H w base args vs hH hG ha
  refine args1_sat fun v hv => sliceR_sat (fun hn => ?_) fun a l cc hs => bytesE_sat fun X n ht => ?_
  · rw [hv, hn] at ha
    exact sum_out cfg0OK rfl 6000 hH ⟨[], [], [.nilSlice]⟩ ha (fits0 rfl) [] (by simp) (by simp) clone_nil (by simp) fun H2 _ => ends0 rfl rfl rfl
  · rw [hv, hs] at ha
    rw [nth_eq] at ht
    obtain ⟨y, zs, hy, hz, rfl⟩ := denL_cons.1 ha
    obtain ⟨m, hlm, hd, _, _⟩ := slice_den hy
    have key : ∀ (k : Nat) (r : SumRes), l.den = k → k ≠ 0 → a.off.den + k ≤ n → roomy k 1 → r.sets = [] → ((SV.slice ⟨base, .lit 0⟩ (.sym k) (.rest base 0)).Imp r.v) →
        (∃ c, (Cells.fn (fun i => byteF X (a.off.den + i)) k).Imp c ∧ r.news = [.own c false 5]) → SumSem Try.prog H β w base 17 (y :: zs) r := by
      intro k r hk hk0 hle hro hsets hval hnews
      obtain ⟨c, hc, hnews⟩ := hnews
      rw [hk] at hd
      refine sum_outO cfg0OK rfl 6000 hH ⟨[a.nm], [rowF X n], [.slice ⟨0, .sym a.off.den⟩ (.sym k) (.sym m)]⟩ (denL_cons.2 ⟨_, _, hd, hz, rfl⟩) (Ifc.fits (by simp) rfl ⟨⟨ht _, rowF_uses _ _ _⟩, trivial⟩) [2] (by simp) (by simp)
        (clone_run X a.off.den n k m) (all_cons hle (all_cons (decide_eq_false hk0) (all_cons ⟨hro, rfl⟩ all_nil))) fun H2 hH2 => ⟨hval, rfl, by rw [hsets]; trivial, ?_⟩
      · rw [hnews]
        have hH2 : H2[2]? = some (.own (.fn (fun i => byteF X (a.off.den + i)) k) false 5) := (List.cons.inj hH2).1
        exact ⟨given_imp hH2 (fun _ => rfl) hc, trivial⟩
    have key0 : ∀ k : Nat, l.den = k → k = 0 → (clone0 n a.off.den base k).Sat (SumSem Try.prog H β w base 17 (y :: zs)) := by
      intro k hk hk0 hle
      rw [hk] at hd
      exact sum_outO cfg0OK rfl 6000 hH ⟨[a.nm], [rowF X n], [.slice ⟨0, .sym a.off.den⟩ (.sym k) (.sym m)]⟩ (denL_cons.2 ⟨_, _, hd, hz, rfl⟩) (Ifc.fits (by simp) rfl ⟨⟨ht _, rowF_uses _ _ _⟩, trivial⟩) [1] (by simp) (by simp)
        (clone_zero X a.off.den n k m) (all_cons hle (all_cons (decide_eq_true hk0) (all_cons rfl all_nil))) fun H2 hH2 => ⟨.refl _, rfl, trivial, ⟨given_own (List.cons.inj hH2).1 rfl rfl, trivial⟩⟩
    cases l with
    | lit k =>
      refine boolC_sat (fun h0 => key0 k rfl (beq_spec h0)) fun h0 => boolC_only fun hlt => fun hle => key k _ rfl (beq_ne h0) hle ⟨?_, blt_spec hlt⟩ rfl (.refl _) ⟨_, fn_imp_lst X _ k, rfl⟩
      have := blt_spec hlt; omega
    | sym k => exact ⟨fun h0 => key0 k rfl (of_decide_eq_true h0), fun h0 => fun h => key k _ rfl (of_decide_eq_false h0) h.1 h.2 rfl (.refl _) ⟨_, .refl _, rfl⟩⟩
    | byt => trivial

end Go.Proofs.Ytdnaaeagllejjaa.Aes
