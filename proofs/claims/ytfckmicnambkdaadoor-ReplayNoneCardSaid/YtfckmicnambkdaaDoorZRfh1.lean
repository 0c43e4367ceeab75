/-
  The reference's hash, first part: its functions of words.
-/
import Derived.Test.YtfckmicnambkdaaDoorZSha3
namespace Go.Proofs.YtfckmicnambkdaaDoor.Aes
open Go.Sim
open Go.Proofs
variable {α : Type}

noncomputable def iw (x : W32) : SV := .int .i64 (.b32 x)
noncomputable def ux (l : List W32) : List SV := mapN iw l
noncomputable def uni (v : SV) : Option W32 := v.asInt none fun k n => boolC (eqK k .i64) (b32of n) none
theorem uni_spec {v : SV} {x : W32} (h : uni v = some x) : v = iw x := by
  unfold uni at h
  rcases asInt_cases v with ⟨k, n, rfl⟩ | hv
  · obtain ⟨hk, h⟩ := boolC_opt (show boolC (eqK k .i64) (b32of n) none = some x from h)
    rw [eqK_spec hk]
    cases n <;> first | (cases h; rfl) | cases h
  · rw [hv] at h; cases h
noncomputable def iwR (x : W32) : R SumRes := .ok ⟨iw x, [], []⟩
/-- a run's value, said in other words -/
theorem endsI {I : Ifc} {base : Nat} {v u : SV} {H : List SO} (ho : ownsOf I.ents 0 = []) (hr : v.ren (I.out base []) = v) (hi : v.Imp u) (hu : v.uses (I.seen []) = true) : I.Ends base [] ⟨u, [], []⟩ v H :=
  ⟨by rw [hr]; exact hi, hu, by rw [ho]; trivial, trivial⟩
theorem int_imp {k : IntKind} {a b : SI} (h : a.den = b.den) : (SV.int k a).Imp (.int k b) := by
  intro γ x hx
  have hx : some (Value.int k a.den) = some x := hx
  rw [h] at hx; exact hx

/- right -/
noncomputable def rightV (x : W32) (n : Nat) : W32 := BitVec.ofInt 32 (IntKind.i64.wrap ((x.toNat : Int) * 2 ^ (32 - n)))
noncomputable def rightO (x : W32) (n : Nat) : List Prop × Option (SV × List (Option SO)) :=
  ([0 ≤ IntKind.i64.wrap ((x.toNat : Int) * 2 ^ (32 - n)), inI64 (((x >>> n).toNat : Int) + ((rightV x n).toNat : Int))], some (.int .i64 (.sym (((x >>> n).toNat : Int) + ((rightV x n).toNat : Int))), []))
noncomputable def rightN : List Nat := [7, 18, 17, 19, 6, 11, 25, 2, 13, 22]
theorem right_runs (x : W32) : mapN (fun n => outP [] (callSim cfg0 400 57 [iw x, .int .i64 (.lit (Int.ofNat n))] [])) rightN = mapN (fun n => rightO x n) rightN := by kernel_rfl
theorem right_run (x : W32) {n : Nat} (hn : n ∈ rightN) : outP [] (callSim cfg0 400 57 [iw x, .int .i64 (.lit (Int.ofNat n))] []) = rightO x n := by
  have h := right_runs x
  rw [mapN_eq, mapN_eq] at h
  exact List.map_inj_left.1 h n hn
theorem right_val (x : W32) {n : Nat} (h2 : 2 ≤ n) (h3 : n ≤ 31) : 0 ≤ IntKind.i64.wrap ((x.toNat : Int) * 2 ^ (32 - n)) ∧ (x >>> n).toNat + (rightV x n).toNat = (rrt x n).toNat := by
  have hx := x.isLt
  have hp : 2 ^ n * 2 ^ (32 - n) = 4294967296 := by rw [← Nat.pow_add, show n + (32 - n) = 32 from by omega]
  have hpn : 4 ≤ 2 ^ n := by
    have := Nat.pow_le_pow_right (show 0 < 2 by omega) h2
    simpa using this
  have hq : 2 ^ (32 - n) ≤ 1073741824 := by
    have := Nat.pow_le_pow_right (show 0 < 2 by omega) (show 32 - n ≤ 30 by omega)
    simpa using this
  have hprod : x.toNat * 2 ^ (32 - n) < 9223372036854775808 := by
    have : x.toNat * 2 ^ (32 - n) ≤ 4294967296 * 1073741824 := Nat.mul_le_mul (by omega) hq
    omega
  have hc : ((x.toNat : Int) * 2 ^ (32 - n)) = ((x.toNat * 2 ^ (32 - n) : Nat) : Int) := by simp
  have hw : IntKind.i64.wrap ((x.toNat : Int) * 2 ^ (32 - n)) = ((x.toNat * 2 ^ (32 - n) : Nat) : Int) := by
    rw [hc, wrap_i64 ⟨by omega, by omega⟩]
  refine ⟨by rw [hw]; omega, ?_⟩
  have hv : rightV x n = x <<< (32 - n) := by
    unfold rightV
    rw [hw, ← hc, shl_bv]
  rw [hv]
  unfold rrt
  rw [BitVec.toNat_or, BitVec.toNat_shiftLeft, BitVec.toNat_ushiftRight, Nat.shiftLeft_eq, Nat.shiftRight_eq_div_pow]
  have hb : x.toNat / 2 ^ n < 2 ^ (32 - n) := by
    rw [Nat.div_lt_iff_lt_mul (by omega), Nat.mul_comm, hp]; exact hx
  have hm : x.toNat * 2 ^ (32 - n) % 2 ^ 32 = 2 ^ (32 - n) * (x.toNat % 2 ^ n) := by
    rw [Nat.mul_comm, show (2 : Nat) ^ 32 = 2 ^ (32 - n) * 2 ^ n from by rw [Nat.mul_comm, hp]]
    exact Nat.mul_mod_mul_left _ _ _
  rw [hm, ← Nat.two_pow_add_eq_or_of_lt hb]
  omega
noncomputable def rightS : Summ := fun args _ _ => args2 args fun v u => optC (uni v) (.stuck 760) fun x => optC (litI u) (.stuck 760) fun n => boolC (memN n rightN) (iwR (rrt x n)) (.stuck 760)
theorem rightN_le {n : Nat} (h : n ∈ rightN) : 2 ≤ n ∧ n ≤ 31 := by
  unfold rightN at h
  simp only [List.mem_cons, List.not_mem_nil, or_false] at h
  omega
theorem rightOK : SumOK Tryd.prog 57 rightS := by
  intro glob O w0 β H w base args vs hH hG ha
  refine args2_sat fun v u hv => optC_only fun x hx => optC_only fun n hn => boolC_only fun hm => ?_
  rw [hv, uni_spec hx, litI_spec hn] at ha
  have hm := memN_iff.1 hm
  obtain ⟨h1, h2⟩ := rightN_le hm
  obtain ⟨h3, h4⟩ := right_val x h1 h2
  have hb := (rrt x n).isLt
  exact sum_out cfg0OK rfl 400 hH ⟨[], [], [iw x, .int .i64 (.lit (Int.ofNat n))]⟩ ha (fits0 rfl) [] (by simp) (by simp) (right_run x hm) (all_cons h3 (all_cons ⟨by omega, by omega⟩ all_nil)) fun _ _ => endsI rfl rfl (int_imp (by show (((x >>> n).toNat : Int) + ((rightV x n).toNat : Int)) = ((rrt x n).toNat : Int); omega)) rfl

/- pick, most -/
noncomputable def pure3I (F : W32 → W32 → W32 → W32) : Summ := fun args _ _ => args3 args fun a b c => optC (uni a) (.stuck 761) fun x => optC (uni b) (.stuck 761) fun y => optC (uni c) (.stuck 761) fun z => iwR (F x y z)
theorem pure3IOK {f : FuncId} {F : W32 → W32 → W32 → W32} (hrun : ∀ x y z : W32, ∃ ps v, outP [] (callSim cfg0 200 f [iw x, iw y, iw z] []) = (ps, some (.int .i64 v, [])) ∧ (∀ p ∈ ps, p) ∧ v.den = ((F x y z).toNat : Int)) : SumOK Tryd.prog f (pure3I F) := by
  intro glob O w0 β H w base args vs hH hG ha
  refine args3_sat fun a b c hv => optC_only fun x hx => optC_only fun y hy => optC_only fun z hz => ?_
  rw [hv, uni_spec hx, uni_spec hy, uni_spec hz] at ha
  obtain ⟨ps, v, h1, h2, h3⟩ := hrun x y z
  exact sum_out cfg0OK rfl 200 hH ⟨[], [], [iw x, iw y, iw z]⟩ ha (fits0 rfl) [] (by simp) (by simp) h1 h2 fun _ _ => endsI rfl rfl (int_imp h3) rfl
theorem most_run (x y z : W32) : outP [] (callSim cfg0 200 59 [iw x, iw y, iw z] []) = ([], some (iw (majW x y z), [])) := by kernel_rfl
theorem mostOK : SumOK Tryd.prog 59 (pure3I majW) := pure3IOK fun x y z => ⟨_, _, most_run x y z, all_nil, rfl⟩
noncomputable def pickI (e f g : W32) : Int := bitsI .xor .i64 ((e &&& f).toNat : Int) (bitsI .and .i64 (4294967295 - (e.toNat : Int)) (g.toNat : Int))
theorem pick_run (x y z : W32) : outP [] (callSim cfg0 200 58 [iw x, iw y, iw z] []) = ([inI64 (4294967295 - (x.toNat : Int))], some (.int .i64 (.sym (pickI x y z)), [])) := by kernel_rfl
theorem pickI_eq (x y z : W32) : pickI x y z = ((choiceW x y z).toNat : Int) := by
  have hn : ((BitVec.ofInt 32 4294967295 ^^^ x).toNat : Int) = 4294967295 - (x.toNat : Int) := by
    have e : BitVec.ofInt 32 4294967295 ^^^ x = ~~~x := by
      rw [show (BitVec.ofInt 32 4294967295 : BitVec 32) = BitVec.allOnes 32 from by decide, BitVec.allOnes_xor]
    rw [e, BitVec.toNat_not]
    have := x.isLt
    omega
  have h1 := bit32_spec (op := .and) (a := BitVec.ofInt 32 4294967295 ^^^ x) (b := z) rfl
  have h2 := bit32_spec (op := .xor) (a := x &&& y) (b := (BitVec.ofInt 32 4294967295 ^^^ x) &&& z) rfl
  rw [hn] at h1
  have h1 : bitsI .and .i64 (4294967295 - (x.toNat : Int)) (z.toNat : Int) = _ := Option.some.inj h1
  have h2 : bitsI .xor .i64 ((x &&& y).toNat : Int) (((BitVec.ofInt 32 4294967295 ^^^ x) &&& z).toNat : Int) = _ := Option.some.inj h2
  unfold pickI
  rw [h1]
  exact h2
theorem pickOK : SumOK Tryd.prog 58 (pure3I choiceW) := pure3IOK fun x y z => ⟨_, _, pick_run x y z, all_cons ⟨by have := x.isLt; omega, by omega⟩ all_nil, pickI_eq x y z⟩
noncomputable def cfgR1 : Cfg := cfgG globS (sumsOf [(57, rightS), (58, pure3I choiceW), (59, pure3I majW)])
theorem cfgR1OK : CfgOK cfgR1 := sumsG_ok (allS (rightOK _) (allS (pickOK _) (allS (mostOK _) (by simp))))
end Go.Proofs.YtfckmicnambkdaaDoor.Aes

