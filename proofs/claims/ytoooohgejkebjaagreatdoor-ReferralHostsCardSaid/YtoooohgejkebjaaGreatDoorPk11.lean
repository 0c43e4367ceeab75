/-
  Texts behind one another: the symbolic simulator and what it is told of the program.
-/
import Derived.Test.YtoooohgejkebjaaGreatDoorZHhl2

/-
  ReferralHosts: the law's runs, behind the first loop.
-/
namespace Go.Proofs.YtoooohgejkebjaaGreatDoor.Aes
open Go.Sim
open Go.Proofs
variable {α : Type}

set_option maxRecDepth 1000000
noncomputable def laS : ByteArray := ⟨#[108, 97, 116, 101, 114, 46, 111, 114, 103]⟩
noncomputable def laR : ByteArray := ⟨#[76, 65, 84, 69, 82]⟩
section
variable (V : Nat → Value) (N n k : Nat) (many : Int) (J : Junk) (z : Nat → Nat → Nat) (es : List MapEntry) (c : Nat) (es' : List MapEntry) (c' : Nat) (W U : Nat → Value) (m i : Nat)
noncomputable def hmF : List SP := bareFs (stopOf (hlS V N n k many j0 false false es c W m i (some (1, 3))) [false, false, false, true, false, true]).frames [[(3, .ptr ⟨1, .lit 0⟩), (4, .ptr ⟨2, .lit 0⟩), (5, .ptr ⟨3, .lit 0⟩), (6, .ptr ⟨5, .lit 0⟩), (9, .func (.fn (.func 26)) [] [.ptr ⟨7, .lit 0⟩]), (10, .int .i64 (.sym i))]]
noncomputable def hmC : Cut := ⟨hmF V N n k many es c W m i, [.ent (rwA V N), .ent (.own (.lst [.int .i64 (.sym many)]) true 3), .ent (.own (.lst [.bool (.lit false)]) true 4), .ent (.own (.lst [.map 6]) true 28),
  .ent (.own (.raw W (m * 2)) false 42), .ent (.own (.lst [hlR false m]) true 30), .ent (.obj (.amap kSt kSt es' c')), .ent (ruN (.slice ⟨8, .lit 0⟩ (.sym m) (.rest 8 0))), .ent (.own (.raw U (m * 2)) false 84)]⟩
noncomputable def hmS (st : Option (Nat × Nat)) : Tree := sim1 (cfgHL.at st) 20000 ((hmC V N n k many es c es' c' W U m i).fill J)
noncomputable def hnS0 : SS := stopOf (hmS V N n k many j0 es c es' c' W U m i (some (2, 2))) [false]
noncomputable def hnT : List (Nat × SV) := [(3, .ptr ⟨1, .lit 0⟩), (4, .ptr ⟨2, .lit 0⟩), (5, .ptr ⟨3, .lit 0⟩), (6, .ptr ⟨5, .lit 0⟩), (9, .func (.fn (.func 26)) [] [.ptr ⟨7, .lit 0⟩]), (11, .ptr ⟨9, .lit 0⟩), (12, .ptr ⟨10, .lit 0⟩)]
variable (t : Bool) (j : Nat)
noncomputable def hnC : Cut := ⟨bareFs (hnS0 V N n k many es c es' c' W U m i).frames [[(0, .func (.yield 12) [] []), (1, .ptr ⟨7, .lit 0⟩), (5, .slice ⟨8, .lit 0⟩ (.sym m) (.rest 8 0)), (6, .int .i64 (.sym m)), (7, .int .i64 (.sym j))], hnT],
  [.ent (rwA V N), .ent (.own (.lst [.int .i64 (.sym many)]) true 3), .ent (.own (.lst [.bool (.lit false)]) true 4), .ent (.own (.lst [.map 6]) true 28),
  .ent (.own (.raw W (m * 2)) false 42), .ent (.own (.lst [hlR false m]) true 30), .ent (.obj (.amap kSt kSt es' c')), .ent (ruN (.slice ⟨8, .lit 0⟩ (.sym m) (.rest 8 0))), .ent (.own (.raw U (m * 2)) false 84),
  .ent (.own (.lst [.int .i64 (.lit (boolC t 1 0))]) true 3), .ent (.own (.lst [.int .i64 (.sym j)]) true 3), .ent ((nth (hnS0 V N n k many es c es' c' W U m i).heap 11).getD .gone), bareL (nth (hnS0 V N n k many es c es' c' W U m i).heap 12) hnT]⟩
noncomputable def hnS (st : Option (Nat × Nat)) : Tree := sim1 (cfgHL.at st) 20000 ((hnC V N n k many es c es' c' W U m i t j).fill J)
noncomputable def hpS0 : SS := stopOf (hnS V N n k many j0 es c es' c' W U m i false 0 (some (2, 2))) [true, false, false, true, true, false]
noncomputable def hpT : List (Nat × SV) := [(3, .ptr ⟨1, .lit 0⟩), (4, .ptr ⟨2, .lit 0⟩), (5, .ptr ⟨3, .lit 0⟩), (6, .ptr ⟨5, .lit 0⟩), (9, .func (.fn (.func 26)) [] [.ptr ⟨7, .lit 0⟩]), (11, .ptr ⟨14, .lit 0⟩), (12, .ptr ⟨15, .lit 0⟩)]
/-- the second loop over the rules: names 9 to 13 are what is left of the first -/
noncomputable def hpC : Cut := ⟨bareFs (hpS0 V N n k many es c es' c' W U m i).frames [[(0, .func (.yield 17) [] []), (1, .ptr ⟨7, .lit 0⟩), (5, .slice ⟨8, .lit 0⟩ (.sym m) (.rest 8 0)), (6, .int .i64 (.sym m)), (7, .int .i64 (.sym j))], hpT],
  [.ent (rwA V N), .ent (.own (.lst [.int .i64 (.sym many)]) true 3), .ent (.own (.lst [.bool (.lit false)]) true 4), .ent (.own (.lst [.map 6]) true 28),
  .ent (.own (.raw W (m * 2)) false 42), .ent (.own (.lst [hlR false m]) true 30), .ent (.obj (.amap kSt kSt es' c')), .ent (ruN (.slice ⟨8, .lit 0⟩ (.sym m) (.rest 8 0))), .ent (.own (.raw U (m * 2)) false 84),
  .ent .gone, .ent .gone, .ent ((nth (hpS0 V N n k many es c es' c' W U m i).heap 11).getD .gone), .ent .gone, .ent .gone,
  .ent (.own (.lst [.int .i64 (.lit 1)]) true 3), .ent (.own (.lst [.int .i64 (.sym j)]) true 3), .ent ((nth (hpS0 V N n k many es c es' c' W U m i).heap 16).getD .gone), bareL (nth (hpS0 V N n k many es c es' c' W U m i).heap 17) hpT]⟩
noncomputable def hpS (st : Option (Nat × Nat)) : Tree := sim1 (cfgHL.at st) 20000 ((hpC V N n k many es c es' c' W U m i j).fill J)
end
end Go.Proofs.YtoooohgejkebjaaGreatDoor.Aes


/-
  ReferralHosts: the law's runs, behind the first loop: every way.
-/
namespace Go.Proofs.YtoooohgejkebjaaGreatDoor.Aes
open Go.Sim
open Go.Proofs
variable {α : Type}

set_option maxRecDepth 1000000
noncomputable def n9' : List Nat := [0, 1, 2, 3, 4, 5, 6, 7, 8]
noncomputable def n13 : List Nat := [0, 1, 2, 3, 4, 5, 6, 7, 8, 9, 10, 11, 12]
noncomputable def n18 : List Nat := [0, 1, 2, 3, 4, 5, 6, 7, 8, 9, 10, 11, 12, 13, 14, 15, 16, 17]
noncomputable def n17 : List Nat := [0, 1, 2, 3, 4, 5, 6, 7, 8, 9, 10, 11, 12, 17, 13, 14, 15, 16]
section
variable (V : Nat → Value) (N n k : Nat) (many : Int) (J : Junk) (z : Nat → Nat → Nat) (es : List MapEntry) (c : Nat) (es' : List MapEntry) (c' : Nat) (W U : Nat → Value) (m i j : Nat) (b : Bool) (l : List Pr)
/- To the loop that removes. -/
noncomputable def hmB (b : Bool) : List Bool := boolC b [true] (repN false 3)
noncomputable def hmL (l : List MapEntry) (b : Bool) : List Prop := sfQ laS true :: rlQ laR false :: boolC b [hkQ laS l true] [hkQ laS l false, fuP l false, hkQ laS l false]
noncomputable def hmE (b : Bool) : List MapEntry := boolC b es (insK es c (.string laS) (.string laR))
noncomputable def hmc (b : Bool) : Nat := boolC b c (c + 1)
noncomputable def hmI (b : Bool) : List Prop := (decide ((i : Int) < (n : Int)) = false) :: (decide ((i : Int) < (n : Int)) = false) :: (HostOK es c (ruLs es) ∧ es.length ≤ 1000000) :: (nilE es = b) :: []
theorem hm_init : outL [] (hmC V N n k many es c (hmE es c b) (hmc c b) W (rowP (ruLs es)) es.length 0) n9' (hlS V N n k many J false false es c W es.length i (some (1, 3))) (app (repN false 3) (true :: false :: hmB b)) z =
  (app (hmI n es c i false) (hmL es b), some (.inr (modSeen [(0, 10, .int .i64 (.lit 0))] [] (seenC n9' 9 (hmC V N n k many es c (hmE es c b) (hmc c b) W (rowP (ruLs es)) es.length 0))))) := by cases b <;> kernel_rfl
noncomputable def hmX : ByteArray := vStr (W (0 + i * 2 + 0))
noncomputable def hmP (q : List Prop) : List Prop := (decide ((i : Int) < (m : Int)) = true) :: ((0 : Int) ≤ (i : Int) ∧ (i : Int) < (m : Int)) :: (0 + i * 2 + 0 < m * 2) :: fitK .s (W (0 + i * 2 + 0)) :: q
noncomputable def hmD (u : Nat) : List Bool := ntC u [false] fun u => ntC u [true, false] fun _ => [true, true]
noncomputable def hmK (u : Nat) : List MapEntry := ntC u es' fun u => ntC u es' fun _ => delK es' (.string (hmX W i))
theorem hm_turn : mapN (fun u => outL [] (hmC V N n k many es c (hmK es' W i u) c' W U m (i + 1)) n9' (hmS V N n k many J es c es' c' W U m i (some (1, 3))) (true :: hmD u) z) (fromN 3 0) =
  mapN (fun u => (hmP W m i (app (cV (hmX W i) es' u) [inI64 ((i : Int) + 1)]), some (.inr (seenC n9' 9 (hmC V N n k many es c (hmK es' W i u) c' W U m (i + 1)))))) (fromN 3 0) := by kernel_rfl
theorem hm_end : outL [] (hnC V N n k many es c es' c' W U m i false 0) n13 (hmS V N n k many J es c es' c' W U m i (some (2, 2))) [false] z =
  ([decide ((i : Int) < (m : Int)) = false], some (.inr (modSeen [(0, 7, .int .i64 (.lit 0))] [(10, .ent (.own (.lst [.int .i64 (.lit 0)]) true 3))] (seenC n13 13 (hnC V N n k many es c es' c' W U m i false 0))))) := by kernel_rfl
/- The loops over the rules. -/
noncomputable def fit2' (V : Nat → Value) (a : Nat) : Prop := fitK .s (V (a + 0)) ∧ fitK .s (V (a + 1)) ∧ True
noncomputable def hnQ (q : List Prop) : List Prop := (decide ((j : Int) < (m : Int)) = true) :: ((0 : Int) ≤ (j : Int) ∧ (j : Int) < (m : Int)) :: (0 + j * 2 + 2 ≤ m * 2) :: fit2' U (0 + j * 2) :: (decide ((j : Int) ≥ (m : Int)) = false) :: ((0 : Int) ≤ (j : Int) ∧ (j : Int) < (m : Int)) :: (0 + j * 2 + 2 ≤ m * 2) :: fit2' W (0 + j * 2) ::
  ((!(decide (vStr (W (0 + j * 2 + 0)) = vStr (U (0 + j * 2 + 0))) && decide (vStr (W (0 + j * 2 + 1)) = vStr (U (0 + j * 2 + 1))))) = false) :: inI64 ((j : Int) + 1) :: q
noncomputable def mxM : Int := if (1 : Int) < many then many else 1
noncomputable def mnQ (b : Bool) : Prop := decide (mxM many < (m : Int)) = b
noncomputable def neQ (k : Int) (b : Bool) : Prop := (k != boolC b (mxM many) (m : Int)) = false
noncomputable def p0 : List (Nat × HP) := [(15, .ent (.own (.lst [.int .i64 (.lit 0)]) true 3))]
theorem hn_turn : outL [] (hnC V N n k many es c es' c' W U m i false j) n13 (hnS V N n k many J es c es' c' W U m i false j (some (2, 2))) (true :: repN false 3) z =
  (hnQ W U m j [decide ((j : Int) + 1 ≥ many) = false, inI64 ((j : Int) + 1)], some (.inr (seenC n13 14 (hnC V N n k many es c es' c' W U m i false (j + 1))))) := by kernel_rfl
theorem hn_brk : outL [] (hpC V N n k many es c es' c' W U m i 0) n18 (hnS V N n k many J es c es' c' W U m i false j (some (2, 2))) [true, false, false, true, b, false] z =
  (hnQ W U m j [decide ((j : Int) + 1 ≥ many) = true, mnQ many m b, neQ many m ((j : Int) + 1) b], some (.inr (modSeen [(0, 7, .int .i64 (.lit 0))] p0 (seenC n18 18 (hpC V N n k many es c es' c' W U m i 0))))) := by cases b <;> kernel_rfl
theorem hn_end : outL [] (hpC V N n k many es c es' c' W U m i 0) n17 (hnS V N n k many J es c es' c' W U m i false j (some (2, 2))) [false, b, false] z =
  ([decide ((j : Int) < (m : Int)) = false, mnQ many m b, neQ many m (j : Int) b], some (.inr (modSeen [(0, 7, .int .i64 (.lit 0))] p0 (seenC n17 17 (hpC V N n k many es c es' c' W U m i 0))))) := by cases b <;> kernel_rfl
theorem hp_turn : outL [] (hpC V N n k many es c es' c' W U m i j) n18 (hpS V N n k many J es c es' c' W U m i j (some (2, 2))) [true, false, false] z =
  (hnQ W U m j [inI64 ((j : Int) + 1)], some (.inr (seenC n18 19 (hpC V N n k many es c es' c' W U m i (j + 1))))) := by kernel_rfl
theorem hp_end : outL [] (hpC V N n k many es c es' c' W U m i j) n18 (hpS V N n k many J es c es' c' W U m i j none) [false, false] z =
  ([decide ((j : Int) < (m : Int)) = false, ((j : Int) != (m : Int)) = false], some (.inl (.bool (.lit true), []))) := by kernel_rfl
end
end Go.Proofs.YtoooohgejkebjaaGreatDoor.Aes

