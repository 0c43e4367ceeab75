/-
  ReferralHosts: the law's runs, every way of a round.
-/
import Derived.Test.YtoooohgejkebjaaGreatDoorPk10
namespace Go.Proofs.YtoooohgejkebjaaGreatDoor.Aes
open Go.Sim
open Go.Proofs
variable {α : Type}

set_option maxRecDepth 1000000
section
variable (V : Nat → Value) (N n : Nat) (i : Nat) (z : Nat → Nat → Nat)
noncomputable def fit3 (a : Nat) : Prop := fitK (.i .i64) (V (a + 0)) ∧ fitK .s (V (a + 1)) ∧ fitK .s (V (a + 2)) ∧ True
noncomputable def hlA (q : List Prop) : List Prop := (decide ((i : Int) < (n : Int)) = true) :: ((0 : Int) ≤ (i : Int) ∧ (i : Int) < (n : Int)) :: (0 + i * 3 + 3 ≤ N * 3) :: fit3 V (0 + i * 3) :: q
noncomputable def wh (j : Int) : Bool := vNum (V (0 + i * 3 + 0)) == j
noncomputable def dW (w : Nat) : List Bool := ntC w [true, true] fun w => ntC w [false, true, true] fun w => ntC w [false, false, true] fun w => ntC w [false, false, false, true] fun w => ntC w [false, false, false, false, true] fun _ => repN false 5
noncomputable def cW (w : Nat) : List Prop := ntC w [wh V i 0 = true, wh V i 0 = true] fun w => ntC w [wh V i 0 = false, wh V i 1 = true, wh V i 1 = true] fun w => ntC w [wh V i 0 = false, wh V i 1 = false, wh V i 2 = true] fun w => ntC w [wh V i 0 = false, wh V i 1 = false, wh V i 2 = false, wh V i 3 = true] fun w =>
  ntC w [wh V i 0 = false, wh V i 1 = false, wh V i 2 = false, wh V i 3 = false, wh V i 4 = true] fun _ => [wh V i 0 = false, wh V i 1 = false, wh V i 2 = false, wh V i 3 = false, wh V i 4 = false]
noncomputable def hlX (o w : Nat) (q : List Prop) : List Prop := hlA V N n i (app (cndQ (z 0 0) 14 0 o) (app (cW V i w) q))
end
section
variable (re : Bool) (W : Nat → Value) (m : Nat) (es : List MapEntry) (X Y : ByteArray)
noncomputable def tR : Pw := boolC re ⟨lsV [], 0, 0⟩ ⟨W, m * 2 / 2, m⟩
noncomputable def hN : Prop := boolC re 0 (m * 2) = boolC re 0 (m * 2) / 2 * 2
noncomputable def hasP (b : Bool) : Prop := cB ((tR re W m).hasX X) = b
noncomputable def okB (b : Bool) : Prop := (sfBo X && rlmB Y) = b
noncomputable def sfQ (b : Bool) : Prop := sfBo X = b
noncomputable def rlQ (b : Bool) : Prop := (!rlmB Y) = b
noncomputable def hkQ (l : List MapEntry) (b : Bool) : Prop := hasK l (.string X) = b
noncomputable def fuP (l : List MapEntry) (b : Bool) : Prop := decide ((l.length : Int) ≥ 500) = b
noncomputable def fuQ : Prop := decide (((tR re W m).n : Int) ≥ 500) = false
noncomputable def cAd (q : List Prop) : List Prop := hN re m :: ((tR re W m).ok ∧ X.size ≤ 9223372036854775807 ∧ Y.size ≤ 9223372036854775807) :: q
noncomputable def dA (o : Nat) : List Bool := ntC o [false, false] fun o => ntC o [false, true, true] fun o => ntC o [true, true, true, false, true] fun _ => true :: false :: false :: true :: repN false 4
noncomputable def cA (o : Nat) : List Prop := ntC o [okB X Y false, sfQ X false] fun o => ntC o [okB X Y false, sfQ X true, rlQ Y true] fun o => ntC o [okB X Y true, hasP re W m X true, sfQ X true, rlQ Y false, hkQ X es true] fun _ => [okB X Y true, hasP re W m X false, fuQ re W m, sfQ X true, rlQ Y false, hkQ X es false, fuP es false, hkQ X es false]
noncomputable def cRm (q : List Prop) : List Prop := hN re m :: ((tR re W m).ok ∧ X.size ≤ 9223372036854775807) :: q
noncomputable def onP (b : Bool) : Prop := decide ((tR re W m).n = 1) = b
noncomputable def dR (o : Nat) : List Bool := ntC o [false, false] fun o => ntC o [true, false, true, false] fun o => ntC o [true, true, true, true, true] fun _ => [true, true, false, true, true]
noncomputable def cR (o : Nat) : List Prop := ntC o [sfQ X false, sfQ X false] fun o => ntC o [sfQ X true, hasP re W m X false, sfQ X true, hkQ X es false] fun o => ntC o [sfQ X true, hasP re W m X true, onP re W m true, sfQ X true, hkQ X es true] fun _ => [sfQ X true, hasP re W m X true, onP re W m false, sfQ X true, hkQ X es true]
end
noncomputable def coS : ByteArray := ⟨#[99, 111, 112, 121, 46, 111, 114, 103]⟩
noncomputable def coR : ByteArray := ⟨#[67, 79, 80, 89]⟩
section
variable (re : Bool) (W : Nat → Value) (m : Nat) (es : List MapEntry) (c : Nat) (X : ByteArray)
noncomputable def dB (b : Nat) : List Bool := ntC b [true, false, true] fun _ => true :: repN false 4
noncomputable def cB1 (b : Nat) : List Prop := ntC b [sfQ coS true, rlQ coR false, hkQ coS es true] fun _ => [sfQ coS true, rlQ coR false, hkQ coS es false, fuP es false, hkQ coS es false]
noncomputable def esC (b : Nat) : List MapEntry := ntC b es fun _ => insK es c (.string coS) (.string coR)
noncomputable def dV (u : Nat) : List Bool := ntC u [false] fun u => ntC u [true, false] fun _ => [true, true]
noncomputable def cV (l : List MapEntry) (u : Nat) : List Prop := ntC u [sfQ X false] fun u => ntC u [sfQ X true, hkQ X l false] fun _ => [sfQ X true, hkQ X l true]
noncomputable def eqC (b : Bool) : Prop := decide (X = coS) = b
noncomputable def dVn (u : Nat) : List Bool := true :: false :: ntC u [false] fun u => ntC u [true, false] fun _ => [true, true, true]
noncomputable def cVn (u : Nat) : List Prop := sfQ coS true :: rlQ coR false :: ntC u [sfQ X false] fun u => ntC u [sfQ X true, eqC X false] fun _ => [sfQ X true, eqC X true, eqC X true]
noncomputable def hpQ (l : List MapEntry) (b : Bool) : Prop := (hpF l (lowS X)).isSome = b
noncomputable def rrQ' (b : Bool) : Prop := (rrO (tR re W m) X).isSome = b
noncomputable def smQ : Prop := decide (vStr (getK es (.string (sufA (lowS X) ((hpF es (lowS X)).getD 0)))) = ((rrO (tR re W m) X).getD default).2) = true
noncomputable def cL (b : Bool) (q : List Prop) : List Prop := (X.size ≤ 9223372036854775807) :: hpQ X es b :: hN re m :: ((tR re W m).ok ∧ X.size ≤ 9223372036854775807 ∧ ∀ p ∈ (tR re W m).list, 1 ≤ p.1.size ∧ p.1.size ≤ 64) :: rrQ' re W m X b :: q
end
noncomputable def seN (names : List Nat) (q : Nat) (C : Cut) : Option ((SV × List (Option SO)) ⊕ Seen) := some (.inr (seenC names q C))
noncomputable def nm7 : List Nat := [0, 1, 2, 3, 4, 5, 6]
noncomputable def nm8 : List Nat := [0, 1, 2, 3, 8, 5, 6]
noncomputable def nm9 : List Nat := [0, 1, 2, 9, 4, 5, 8]
noncomputable def nm6 : List Nat := [0, 1, 2, 3, 4, 5]
section
variable (V : Nat → Value) (N n k : Nat) (many : Int) (J : Junk) (z : Nat → Nat → Nat) (re : Bool) (es : List MapEntry) (c : Nat) (W : Nat → Value) (m i : Nat)
noncomputable def hlD (mn re : Bool) (o : Nat) (ds : List Bool) (names : List Nat) : OutL := outL [] (hlC V N n k many mn re es c W m i) names (hlS V N n k many J mn re es c W m i (some (1, 3))) (true :: app (dirQ 14 o) ds) z
noncomputable def i1 : List Prop := [inI64 ((i : Int) + 1)]
theorem hl_A : mapN (fun o => mapN (fun w => mapN (fun a => hlD V N n k many J z es c W m i false re o (app (dW w) (dA a)) nm7) (fromN 3 0)) (fromN 3 0)) (fromN 15 0) =
  mapN (fun o => mapN (fun w => mapN (fun a => (hlX V N n i z o w (cAd re W m (aFr V i) (aTo V i) (app (cA re W m es (aFr V i) (aTo V i) a) (i1 i))), seN nm7 8 (hlC V N n k many false re es c W m (i + 1)))) (fromN 3 0)) (fromN 3 0)) (fromN 15 0) := by cases re <;> kernel_rfl
end
end Go.Proofs.YtoooohgejkebjaaGreatDoor.Aes

