/-
  RouteTrusts: the law's runs.
-/
import Derived.Test.YtmekechnnfhhkaaDoorPk8
namespace Go.Proofs.YtmekechnnfhhkaaDoor.Aes
open Go.Sim
open Go.Proofs
variable {α : Type}

set_option maxRecDepth 1000000
noncomputable def rlRT : List (FuncId × Summ) := [(5, exS), (4, shSm), (7, agSm), (17, tuSm), (18, unSm), (22, rtsS), (21, mtSm), (24, rlsS), (35, clnM)]
theorem rlRTOK : ∀ y ∈ rlRT, SumOK Tryd.prog y.1 y.2 := allC exOK (allC shOK (allC agOK (allC tuOK (allC unOK (allC rtsOK (allC mtOK (allC rlsOK (all1 clnPrOK))))))))
noncomputable def cfgRT : Cfg := cfgOf (sumsOf rlRT)
theorem cfgRTOK : CfgOK cfgRT := sumsOf_ok rlRTOK
noncomputable def ntC (n : Nat) (a : α) (f : Nat → α) : α := Nat.rec (motive := fun _ => α) a (fun k _ => f k) n
section
variable (V : Nat → Value) (N n k : Nat) (J : Junk) (z : Nat → Nat → Nat)
noncomputable def lwT (st : Option (Nat × Nat)) : Tree := callSim (cfgRT.at st) 20000 3 [slP 0 n k] [rwA V N]
noncomputable def lwZ : Tree := callSim cfgRT 20000 3 [.nilSlice] []
variable (mn re : Bool) (es : List MapEntry) (c : Nat) (W : Nat → Value) (m i : Nat)
noncomputable def lwF : List SP := bareFs (stopOf (lwT V N n k (some (1, 3))) [false]).frames [[(0, slP 0 n k), (3, .ptr ⟨1, .lit 0⟩), (4, boolC re (.slice ⟨2, .lit 0⟩ (.sym 0) (.sym 0)) (.slice ⟨2, .lit 0⟩ (.sym m) (.rest 2 0))), (5, .bool (.lit true)), (6, .int .i64 (.sym i))]]
noncomputable def lwC : Cut := ⟨lwF V N n k re m i, (.ent (rwA V N)) :: (.ent (.own (.lst [boolC mn .nilMap (.map 3)]) true 28)) :: (.ent (boolC re (.own (.lst []) true 41) (.own (.raw W (m * 2)) false 41))) :: boolC mn [] [.ent (.obj (.amap kPr vBo es c))]⟩
noncomputable def lwS (st : Option (Nat × Nat)) : Tree := sim1 (cfgRT.at st) 20000 ((lwC V N n k mn re es c W m i).fill J)
/- What is asked. -/
noncomputable def fit3 (a : Nat) : Prop := fitK (.i .i64) (V (a + 0)) ∧ fitK .s (V (a + 1)) ∧ fitK .s (V (a + 2)) ∧ True
noncomputable def lwA (q : List Prop) : List Prop := (decide ((i : Int) < (n : Int)) = true) :: ((0 : Int) ≤ (i : Int) ∧ (i : Int) < (n : Int)) :: (0 + i * 3 + 3 ≤ N * 3) :: fit3 V (0 + i * 3) :: q
noncomputable def wh (j : Int) : Bool := vNum (V (0 + i * 3 + 0)) == j
noncomputable def dW (w : Nat) : List Bool := ntC w [true, true] fun w => ntC w [false, true, true] fun w => ntC w [false, false, true] fun w => ntC w [false, false, false, true] fun w => ntC w [false, false, false, false, true] fun _ => repN false 5
noncomputable def cW (w : Nat) : List Prop := ntC w [wh V i 0 = true, wh V i 0 = true] fun w => ntC w [wh V i 0 = false, wh V i 1 = true, wh V i 1 = true] fun w => ntC w [wh V i 0 = false, wh V i 1 = false, wh V i 2 = true] fun w => ntC w [wh V i 0 = false, wh V i 1 = false, wh V i 2 = false, wh V i 3 = true] fun w =>
  ntC w [wh V i 0 = false, wh V i 1 = false, wh V i 2 = false, wh V i 3 = false, wh V i 4 = true] fun _ => [wh V i 0 = false, wh V i 1 = false, wh V i 2 = false, wh V i 3 = false, wh V i 4 = false]
noncomputable def tR : Pw := boolC re ⟨lsV [], 0, 0⟩ ⟨W, m * 2 / 2, m⟩
noncomputable def hN : Prop := boolC re 0 (m * 2) = boolC re 0 (m * 2) / 2 * 2
noncomputable def agP (t : Pw) : Prop := boolC mn (t.n = 0) (t.ok ∧ MapOK es c ∧ es.length ≤ 1000000 ∧ t.list = srL es)
noncomputable def cE : List Prop := [hN re m, agP mn es c (tR re W m), inI64 ((i : Int) + 1)]
variable (X Y : ByteArray)
noncomputable def cR (q : List Prop) : List Prop := hN re m :: ((tR re W m).ok ∧ X.size ≤ 9223372036854775807 ∧ Y.size ≤ 9223372036854775807) :: q
noncomputable def rlN (b : Bool) : Prop := (!cB (rlsP (twS X Y))) = b
noncomputable def cTw (q : List Prop) : List Prop := (twS X Y).ok :: rlN X Y false :: (decide (X = Y) = false) :: q
noncomputable def cBad (o : Nat) : List Prop := ntC o ((twS X Y).ok :: repN (rlN X Y true) 4) fun _ => [(twS X Y).ok, rlN X Y false, decide (X = Y) = true]
noncomputable def dBad (o : Nat) : List Bool := ntC o (repN true 4) fun _ => [false, true]
noncomputable def fuP (l : List MapEntry) (b : Bool) : Prop := decide ((l.length : Int) ≥ 1000) = b
noncomputable def hasP (b : Bool) : Prop := cB ((tR re W m).has (X, Y)) = b
noncomputable def dT (o : Nat) : List Bool := ntC o (false :: dBad 0) fun o => ntC o (false :: dBad 1) fun o => ntC o [true, true, false, false, true, true] fun o => ntC o [true, false, true, false, false, false, true] fun _ => true :: repN false 7
noncomputable def cT (o : Nat) : List Prop := ntC o ((okPr X Y = false) :: cBad X Y 0) fun o => ntC o ((okPr X Y = false) :: cBad X Y 1) fun o => ntC o ((okPr X Y = true) :: hasP re W m X Y true :: cTw X Y [hasK es (pK X Y) = true, vBoo (getK es (pK X Y)) = true]) fun o =>
  ntC o ((okPr X Y = true) :: hasP re W m X Y false :: (decide (((tR re W m).n : Int) ≥ 1000) = true) :: cTw X Y [hasK es (pK X Y) = false, fuP es true]) fun _ =>
  ((okPr X Y = true) :: hasP re W m X Y false :: (decide (((tR re W m).n : Int) ≥ 1000) = false) :: cTw X Y [hasK es (pK X Y) = false, fuP es false, hasK es (pK X Y) = false])
noncomputable def dU (o : Nat) : List Bool := ntC o (false :: dBad 0) fun o => ntC o (false :: dBad 1) fun o => ntC o [true, false, false, false, false] fun o => ntC o [true, true, true, false, false, true, false] fun _ => [true, true, false, false, false, true, false]
noncomputable def cU (o : Nat) : List Prop := ntC o ((okPr X Y = false) :: cBad X Y 0) fun o => ntC o ((okPr X Y = false) :: cBad X Y 1) fun o => ntC o ((okPr X Y = true) :: hasP re W m X Y false :: cTw X Y [hasK es (pK X Y) = false]) fun o =>
  ntC o ((okPr X Y = true) :: hasP re W m X Y true :: (decide ((tR re W m).n = 1) = true) :: cTw X Y [hasK es (pK X Y) = true, (!vBoo (getK es (pK X Y))) = false]) fun _ =>
  ((okPr X Y = true) :: hasP re W m X Y true :: (decide ((tR re W m).n = 1) = false) :: cTw X Y [hasK es (pK X Y) = true, (!vBoo (getK es (pK X Y))) = false])
noncomputable def seN (names : List Nat) (q : Nat) (C : Cut) : Option ((SV × List (Option SO)) ⊕ Seen) := some (.inr (seenC names q C))
noncomputable def tiK : List MapEntry := insK es c (pK X Y) (.bool true)
noncomputable def tiW : Nat → Value := flatV encPr 2 (insP (tR re W m).list (X, Y))
noncomputable def tdW : Nat → Value := flatV encPr 2 (delP (tR re W m).list (X, Y))
noncomputable def nm4 : List Nat := [0, 1, 2, 3]
end
noncomputable def coS : ByteArray := ⟨#[67, 79, 80, 89]⟩
noncomputable def otS : ByteArray := ⟨#[79, 84, 72, 69, 82]⟩
section
variable (V : Nat → Value) (i : Nat) (es : List MapEntry) (c : Nat) (X Y : ByteArray)
noncomputable def coK : Value := pK coS otS
noncomputable def dB (b : Nat) : List Bool := ntC b [false, true, true] fun b => ntC b [false, false, true] fun _ => repN false 4
noncomputable def cB1 (b : Nat) : List Prop := ntC b [hasK es coK = true, vBoo (getK es coK) = true] fun b => ntC b [hasK es coK = false, fuP es true] fun _ => [hasK es coK = false, fuP es false, hasK es coK = false]
noncomputable def es2 (b : Nat) : List MapEntry := ntC b es fun b => ntC b es fun _ => insK es c coK (.bool true)
noncomputable def dV (u : Nat) : List Bool := ntC u (dBad 0) fun u => ntC u (dBad 1) fun u => ntC u (repN false 3) fun _ => [false, false, true, false]
noncomputable def cV (l : List MapEntry) (u : Nat) : List Prop := ntC u (cBad X Y 0) fun u => ntC u (cBad X Y 1) fun u => ntC u (cTw X Y [hasK l (pK X Y) = false]) fun _ => cTw X Y [hasK l (pK X Y) = true, (!vBoo (getK l (pK X Y))) = false]
noncomputable def coP (q : List Prop) : List Prop := (twS coS otS).ok :: rlN coS otS false :: q
noncomputable def eqC (b : Bool) : Prop := (decide (X = coS) && decide (Y = otS)) = b
noncomputable def cVn (u : Nat) : List Prop := ntC u (cBad X Y 0) fun u => ntC u (cBad X Y 1) fun u => ntC u (cTw X Y [eqC X Y false]) fun _ => cTw X Y [eqC X Y true, eqC X Y true]
noncomputable def dVn (u : Nat) : List Bool := ntC u (dBad 0) fun u => ntC u (dBad 1) fun u => ntC u (repN false 3) fun _ => [false, false, true, true]
/- No map yet. -/
noncomputable def dTn (o : Nat) : List Bool := ntC o (false :: dBad 0) fun _ => (false :: dBad 1)
noncomputable def cTn (o : Nat) : List Prop := ntC o ((okPr X Y = false) :: cBad X Y 0) fun _ => (okPr X Y = false) :: cBad X Y 1
end
section
variable (V : Nat → Value) (N n k : Nat) (J : Junk) (z : Nat → Nat → Nat) (re : Bool) (es : List MapEntry) (c : Nat) (W : Nat → Value) (m i : Nat)
noncomputable def lwX (i : Nat) (w : Nat) (q : List Prop) : List Prop := lwA V N n i (app (cW V i w) q)
noncomputable def lwD (mn re : Bool) (ds : List Bool) (names : List Nat) : OutL := outL [] (lwC V N n k mn re es c W m i) names (lwS V N n k J mn re es c W m i (some (1, 3))) (true :: ds) z
theorem lw_end (mn : Bool) : outL [] (lwC V N n k mn re es c W m i) [] (lwS V N n k J mn re es c W m i none) (repN false 2) z = (repN (decide ((i : Int) < (n : Int)) = false) 2, some (.inl (.bool (.lit true), []))) := by cases mn <;> cases re <;> kernel_rfl
theorem lw_T : mapN (fun w => mapN (fun o => lwD V N n k J z es c W m i false re (app (dW w) (dT o)) nm4) (fromN 4 0)) (fromN 3 0) =
  mapN (fun w => mapN (fun o => (lwX V N n i w (cR re W m (aFr V i) (aTo V i) (app (cT re es W m (aFr V i) (aTo V i) o) (cE false re es c W m i))), seN nm4 7 (lwC V N n k false re es c W m (i + 1)))) (fromN 4 0)) (fromN 3 0) := by cases re <;> kernel_rfl
theorem lw_T3 : mapN (fun w => lwD V N n k J z es c W m i false re (app (dW w) (dT 4)) [0, 1, 5, 3]) (fromN 3 0) =
  mapN (fun w => (lwX V N n i w (cR re W m (aFr V i) (aTo V i) (app (cT re es W m (aFr V i) (aTo V i) 4) (cE false false (tiK es c (aFr V i) (aTo V i)) (c + 1) (tiW re W m (aFr V i) (aTo V i)) ((tR re W m).n + 1) i))),
    seN [0, 1, 5, 3] 8 (lwC V N n k false false (tiK es c (aFr V i) (aTo V i)) (c + 1) (tiW re W m (aFr V i) (aTo V i)) ((tR re W m).n + 1) (i + 1)))) (fromN 3 0) := by cases re <;> kernel_rfl
theorem lw_U : mapN (fun o => lwD V N n k J z es c W m i false re (app (dW 3) (dU o)) nm4) (fromN 3 0) =
  mapN (fun o => (lwX V N n i 3 (cR re W m (aFr V i) (aTo V i) (app (cU re es W m (aFr V i) (aTo V i) o) (cE false re es c W m i))), seN nm4 7 (lwC V N n k false re es c W m (i + 1)))) (fromN 3 0) := by cases re <;> kernel_rfl
theorem lw_U2 : lwD V N n k J z es c W m i false false (app (dW 3) (dU 3)) [0, 1, 5, 3] =
  (lwX V N n i 3 (cR false W m (aFr V i) (aTo V i) (app (cU false es W m (aFr V i) (aTo V i) 3) (cE false true (delK es (pK (aFr V i) (aTo V i))) c W m i))),
    some (.inr (modSeen [(0, 4, .slice ⟨5, .lit 0⟩ (.lit 0) (.lit 0))] [] (seenC [0, 1, 5, 3] 8 (lwC V N n k false true (delK es (pK (aFr V i) (aTo V i))) c W m (i + 1)))))) := by kernel_rfl
theorem lw_U3 : lwD V N n k J z es c W m i false false (app (dW 3) (dU 4)) [0, 1, 5, 3] =
  (lwX V N n i 3 (cR false W m (aFr V i) (aTo V i) (app (cU false es W m (aFr V i) (aTo V i) 4) (cE false false (delK es (pK (aFr V i) (aTo V i))) c (tdW false W m (aFr V i) (aTo V i)) ((tR false W m).n - 1) i))),
    seN [0, 1, 5, 3] 8 (lwC V N n k false false (delK es (pK (aFr V i) (aTo V i))) c (tdW false W m (aFr V i) (aTo V i)) ((tR false W m).n - 1) (i + 1))) := by kernel_rfl
theorem lw_C : mapN (fun b => mapN (fun u => lwD V N n k J z es c W m i false re (app (dW 4) (app (dB b) (dV u))) [0, 6, 2, 5]) (fromN 4 0)) (fromN 3 0) =
  mapN (fun b => mapN (fun u => (lwX V N n i 4 (coP (app (cB1 es b) (app (cV (aFr V i) (aTo V i) (es2 es c b) u) (cE false re es c W m i)))), seN [0, 6, 2, 5] 11 (lwC V N n k false re es c W m (i + 1)))) (fromN 4 0)) (fromN 3 0) := by cases re <;> kernel_rfl
theorem lw_D : lwD V N n k J z es c W m i false re (app (dW 5) [true]) nm4 =
  (lwX V N n i 5 (hN re m :: (tR re W m).ok :: ((mtB es (aFr V i) (aTo V i) == cB ((tR re W m).has (aFr V i, aTo V i))) = true) :: cE false re es c W m i), seN nm4 5 (lwC V N n k false re es c W m (i + 1))) := by cases re <;> kernel_rfl
/- No map yet. -/
noncomputable def nm3 : List Nat := [0, 1, 2]
theorem lw_Tn : mapN (fun w => mapN (fun o => lwD V N n k J z es c W m i true true (app (dW w) (dTn o)) nm3) (fromN 2 0)) (fromN 3 0) =
  mapN (fun w => mapN (fun o => (lwX V N n i w (cR true W m (aFr V i) (aTo V i) (app (cTn (aFr V i) (aTo V i) o) (cE true true es c W m i))), seN nm3 6 (lwC V N n k true true es c W m (i + 1)))) (fromN 2 0)) (fromN 3 0) := by kernel_rfl
noncomputable def onE1 (X Y : ByteArray) : List MapEntry := [⟨kyP (X, Y), .bool true, 0⟩]
theorem lw_Tn3 : mapN (fun w => outL [] (lwC V N n k false false es c W m i) [0, 1, 4, 7] (lwS V N n k J true true es c W m i (some (1, 3))) (true :: app (dW w) (true :: repN false 4)) z) (fromN 3 0) =
  mapN (fun w => (lwX V N n i w (cR true W m (aFr V i) (aTo V i) ((okPr (aFr V i) (aTo V i) = true) :: hasP true W m (aFr V i) (aTo V i) false :: (false = false) :: cTw (aFr V i) (aTo V i) (cE false false (onE1 (aFr V i) (aTo V i)) 1 (tiW true W m (aFr V i) (aTo V i)) 1 i))),
    seN [0, 1, 4, 7] 8 (lwC V N n k false false (onE1 (aFr V i) (aTo V i)) 1 (tiW true W m (aFr V i) (aTo V i)) 1 (i + 1)))) (fromN 3 0) := by kernel_rfl
theorem lw_Un : mapN (fun o => lwD V N n k J z es c W m i true true (app (dW 3) (dTn o)) nm3) (fromN 2 0) =
  mapN (fun o => (lwX V N n i 3 (cR true W m (aFr V i) (aTo V i) (app (cTn (aFr V i) (aTo V i) o) (cE true true es c W m i))), seN nm3 6 (lwC V N n k true true es c W m (i + 1)))) (fromN 2 0) := by kernel_rfl
theorem lw_Un1 : lwD V N n k J z es c W m i true true (app (dW 3) (true :: repN false 3)) nm3 =
  (lwX V N n i 3 (cR true W m (aFr V i) (aTo V i) ((okPr (aFr V i) (aTo V i) = true) :: hasP true W m (aFr V i) (aTo V i) false :: cTw (aFr V i) (aTo V i) (cE true true es c W m i))), seN nm3 6 (lwC V N n k true true es c W m (i + 1))) := by kernel_rfl
theorem lw_Cn : mapN (fun u => lwD V N n k J z es c W m i true true (app (dW 4) (false :: dVn u)) [0, 4, 2]) (fromN 4 0) =
  mapN (fun u => (lwX V N n i 4 (coP (app (cVn (aFr V i) (aTo V i) u) (cE true true es c W m i))), seN [0, 4, 2] 10 (lwC V N n k true true es c W m (i + 1)))) (fromN 4 0) := by kernel_rfl
theorem lw_Dn : lwD V N n k J z es c W m i true true (app (dW 5) [true]) nm3 =
  (lwX V N n i 5 (hN true m :: (tR true W m).ok :: ((false == cB ((tR true W m).has (aFr V i, aTo V i))) = true) :: cE true true es c W m i), seN nm3 4 (lwC V N n k true true es c W m (i + 1))) := by kernel_rfl
noncomputable def shN (b : Bool) : List Prop := [N * 3 = N * 3 / 3 * 3, ((⟨V, N * 3 / 3, n⟩ : Pw).n : Int) ≤ 40 → (⟨V, N * 3 / 3, n⟩ : Pw).okA ∧ (⟨V, N * 3 / 3, n⟩ : Pw).n ≤ 1000000, (!cB (shP ⟨V, N * 3 / 3, n⟩ 40)) = b]
theorem lw_init : outL [] (lwC V N n k true true es c W m 0) nm3 (lwT V N n k (some (1, 3))) [false] z = (shN V N n false, some (.inr (modSeen [(0, 4, .slice ⟨2, .lit 0⟩ (.lit 0) (.lit 0)), (0, 6, .int .i64 (.lit 0))] [] (seenC nm3 3 (lwC V N n k true true es c W m 0))))) := by kernel_rfl
theorem lw_few : outO [] (lwT V N n k none) [true] = (shN V N n true, some (.bool (.lit true), [])) := by kernel_rfl
theorem lz_few (b : Bool) : outO [] lwZ [b] = ([(!cB ((0 : Int) ≤ 40)) = b], some (.bool (.lit true), [])) := by cases b <;> kernel_rfl
noncomputable def nmOK (names : List Nat) (mn re re' : Bool) : Prop := ∀ (V : Nat → Value) (N n k : Nat) (es : List MapEntry) (c : Nat) (W : Nat → Value) (m i : Nat) (es' : List MapEntry) (c' : Nat) (W' : Nat → Value) (m' i' : Nat), boolC (namesOK 1 names (lwC V N n k mn re es c W m i) (lwC V N n k mn re' es' c' W' m' i')) (allN noLoopE (lwC V N n k mn re' es' c' W' m' i').heap) false = true
theorem nm_4 : nmOK nm4 false re re := by intro V N n k es c W m i es' c' W' m' i'; cases re <;> kernel_rfl
theorem nm_6 : nmOK [0, 6, 2, 5] false re re := by intro V N n k es c W m i es' c' W' m' i'; cases re <;> kernel_rfl
theorem nm_5 (re' : Bool) : nmOK [0, 1, 5, 3] false re re' := by intro V N n k es c W m i es' c' W' m' i'; cases re <;> cases re' <;> kernel_rfl
theorem nm_3 : nmOK nm3 true true true := by intro V N n k es c W m i es' c' W' m' i'; kernel_rfl
theorem nm_n4 : nmOK [0, 4, 2] true true true := by intro V N n k es c W m i es' c' W' m' i'; kernel_rfl
theorem nm_n7 : nmOK [0, 1, 4, 7] false false false := by intro V N n k es c W m i es' c' W' m' i'; kernel_rfl
theorem lw_tmp (mn : Bool) : (((lwC V N n k mn re es c W m i).frames[0]?).bind fun p => p.tmps[6]?) = some (some (.int .i64 (.sym i))) := by cases mn <;> cases re <;> kernel_rfl
theorem lw_tmr (mn : Bool) : (((lwC V N n k mn true es c W m i).frames[0]?).bind fun p => p.tmps[4]?) = some (some (.slice ⟨2, .lit 0⟩ (.sym 0) (.sym 0))) := by cases mn <;> kernel_rfl
end
end Go.Proofs.YtmekechnnfhhkaaDoor.Aes

