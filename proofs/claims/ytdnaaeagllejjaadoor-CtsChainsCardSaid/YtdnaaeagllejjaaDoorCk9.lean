/-
  Texts behind one another: the symbolic simulator and what it is told of the program.
-/
import Derived.Test.YtdnaaeagllejjaaDoorYChn2a
import Derived.Test.YtdnaaeagllejjaaDoorYChn2b
import Derived.Test.YtdnaaeagllejjaaDoorYChn2c
import Derived.Test.YtdnaaeagllejjaaDoorYChn3
import Derived.Test.YtdnaaeagllejjaaDoorCk6
import Derived.Test.YtdnaaeagllejjaaDoorCk5
import Derived.Test.YtdnaaeagllejjaaDoorRows
import Derived.Lib.LaidTab
import Derived.MakeChecks

/-
  CtsChains: the law.
-/
namespace Go.Proofs.YtdnaaeagllejjaaDoor.Aes
open Go.Sim
open Go.Proofs
open Go.RowKit

/- The runs, taken out of their lists. -/
theorem allKI_at {β : Type} {f g : Nat → Nat → Nat → β} {q : Nat} (h : allKI f q = allKI g q) {k i : Nat} (hk : k < 11 - q) (hi : i < k) : f q k i = g q k i :=
  mapN_at (f := fun i => f q k i) (g := fun i => g q k i) (mapN_at (f := fun k => mapN (fun i => f q k i) (fromN k 0)) (g := fun k => mapN (fun i => g q k i) (fromN k 0)) h (l := k) (Nat.zero_le _) (by show k < 0 + (11 - q); omega)) (Nat.zero_le _) (by omega)
section
variable (X Y : Nat → BitVec 8) (n1 m1 n2 m2 c K c1 K2 c2 : Nat) (p1 p2 p3 : Option Addr) (Z : Nat → Nat → BitVec 8) (P : Nat → Option Addr) (ls cs ns : Nat → Nat) (a : Int)
theorem ch_all {q k b : Nat} (hq : q ≤ 10) (hk : k < 11 - q) (hb : b ≤ q) : chL X Y n1 m1 n2 m2 c Z P ls cs ns a q k b = chR X Y n1 n2 Z ls ns a q k b := by
  have h : q = 0 ∨ q = 1 ∨ q = 2 ∨ q = 3 ∨ q = 4 ∨ q = 5 ∨ q = 6 ∨ q = 7 ∨ q = 8 ∨ q = 9 ∨ q = 10 := by omega
  rcases h with rfl | rfl | rfl | rfl | rfl | rfl | rfl | rfl | rfl | rfl | rfl
  · exact ch0 X Y n1 m1 n2 m2 c Z P ls cs ns a (by omega) hb
  · exact ch1 X Y n1 m1 n2 m2 c Z P ls cs ns a (by omega) hb
  · exact ch2 X Y n1 m1 n2 m2 c Z P ls cs ns a (by omega) hb
  · exact ch3 X Y n1 m1 n2 m2 c Z P ls cs ns a (by omega) hb
  · exact ch4 X Y n1 m1 n2 m2 c Z P ls cs ns a (by omega) hb
  · exact ch5 X Y n1 m1 n2 m2 c Z P ls cs ns a (by omega) hb
  · exact ch6 X Y n1 m1 n2 m2 c Z P ls cs ns a (by omega) hb
  · exact ch7 X Y n1 m1 n2 m2 c Z P ls cs ns a (by omega) hb
  · exact ch8 X Y n1 m1 n2 m2 c Z P ls cs ns a (by omega) hb
  · exact ch9 X Y n1 m1 n2 m2 c Z P ls cs ns a (by omega) hb
  · exact ch10 X Y n1 m1 n2 m2 c Z P ls cs ns a (by omega) hb
theorem ex_all {q k i : Nat} (hq : q ≤ 10) (hk : k < 11 - q) (hi : i < k) : exL c K c1 K2 c2 p1 p2 Z P ls cs ns a q k i = exR K K2 ls ns q k i := by
  have h : q = 0 ∨ q = 1 ∨ q = 2 ∨ q = 3 ∨ q = 4 ∨ q = 5 ∨ q = 6 ∨ q = 7 ∨ q = 8 ∨ q = 9 ∨ q = 10 := by omega
  rcases h with rfl | rfl | rfl | rfl | rfl | rfl | rfl | rfl | rfl | rfl | rfl
  · exact allKI_at (ex0 c K c1 K2 c2 p1 p2 Z P ls cs ns a) hk hi
  · exact allKI_at (ex1 c K c1 K2 c2 p1 p2 Z P ls cs ns a) hk hi
  · exact allKI_at (ex2 c K c1 K2 c2 p1 p2 Z P ls cs ns a) hk hi
  · exact allKI_at (ex3 c K c1 K2 c2 p1 p2 Z P ls cs ns a) hk hi
  · exact allKI_at (ex4 c K c1 K2 c2 p1 p2 Z P ls cs ns a) hk hi
  · exact allKI_at (ex5 c K c1 K2 c2 p1 p2 Z P ls cs ns a) hk hi
  · exact allKI_at (ex6 c K c1 K2 c2 p1 p2 Z P ls cs ns a) hk hi
  · exact allKI_at (ex7 c K c1 K2 c2 p1 p2 Z P ls cs ns a) hk hi
  · exact allKI_at (ex8 c K c1 K2 c2 p1 p2 Z P ls cs ns a) hk hi
  · exact allKI_at (ex9 c K c1 K2 c2 p1 p2 Z P ls cs ns a) hk hi
  · exact allKI_at (ex10 c K c1 K2 c2 p1 p2 Z P ls cs ns a) hk hi
/- No block at all; too much of something. -/
theorem nil_good : chRun [kyS m1, ivS m2, .nilSlice, .int .i64 (.sym a)] [tabR, rowF X n1, rowF Y n2] [] = chYes (chRef X Y n1 n2 0 (chIn0 X Y n1 n2 (chIn0 X Y n1 n2 []))) := by kernel_rfl
theorem nil_bad1 : chRun [xvS p1 K c1, xvS p2 K2 c2, .nilSlice, .int .i64 (.sym a)] [tabR, .gone, .gone] (false :: false :: bD true) = chYes (le2 K K2 (bC true K K2)) := by kernel_rfl
theorem nil_bad2 : chRun [xvS p1 K c1, xvS p2 K2 c2, .nilSlice, .int .i64 (.sym a)] [tabR, .gone, .gone] (false :: false :: bD false) = chYes (le2 K K2 (bC false K K2)) := by kernel_rfl
theorem nil_key : chRun [xvS p1 K c1, ivS m2, .nilSlice, .int .i64 (.sym a)] [tabR, .gone, rowF Y n2] [false, false, false, false, false] = chYes ((decide ((K : Int) > 20) = false) :: cC Y n2 K) := by kernel_rfl
theorem big_1 : chRun [xvS p1 K c1, xvS p2 K2 c2, xvS p3 c n1, .int .i64 (.sym a)] [tabR] [true, true, true, true] = chYes (repC (decide ((K : Int) > 20) = true) 4 []) := by kernel_rfl
theorem big_2 : chRun [xvS p1 K c1, xvS p2 K2 c2, xvS p3 c n1, .int .i64 (.sym a)] [tabR] [false, true, true, true, true] = chYes ((decide ((K : Int) > 20) = false) :: repC (decide ((K2 : Int) > 20) = true) 4 []) := by kernel_rfl
theorem big_3 : chRun [xvS p1 K c1, xvS p2 K2 c2, xvS p3 c n1, .int .i64 (.sym a)] [tabR] [false, false, true] = chYes (le2 K K2 [decide ((c : Int) > 10) = true]) := by kernel_rfl
end

/- Conditions. -/
theorem repC_all {p : Prop} {r : List Prop} (h : p) (hr : ∀ q ∈ r, q) : ∀ n, ∀ q ∈ repC p n r, q
  | 0 => hr
  | n + 1 => all_cons h (repC_all h hr n)
theorem chIn_all {ns : Nat → Nat} {r : List Prop} (hr : ∀ p ∈ r, p) : ∀ (q i : Nat), (∀ j, i ≤ j → j < i + q → 16 ≤ ns j) → ∀ p ∈ chIn ns q r i, p
  | 0, _, _ => hr
  | q + 1, i, h => all_cons (by have := h i (Nat.le_refl _) (by omega); omega) (chIn_all hr q (i + 1) fun j h1 h2 => h j (by omega) (by omega))
theorem chOver_all {ls : Nat → Nat} {r : List Prop} (hr : ∀ p ∈ r, p) : ∀ (k i : Nat), (∀ j, i ≤ j → j < i + k → ls j ≤ 20) → ∀ p ∈ chOver ls k r i, p
  | 0, _, _ => hr
  | k + 1, i, h => all_cons (decide_eq_false (by have := h i (Nat.le_refl _) (by omega); omega)) (chOver_all hr k (i + 1) fun j h1 h2 => h j (by omega) (by omega))
theorem beq16 {n : Nat} (h : n ≠ 16) : ((n : Int) == 16) = false := by
  rw [beq_eq_false_iff_ne]; omega
theorem beq16t {n : Nat} (h : n = 16) : ((n : Int) == 16) = true := by subst h; rfl
theorem chOut_all {ls : Nat → Nat} {r : List Prop} {q : Nat} (hr : ∀ p ∈ r, p) : ∀ k : Nat, (∀ j, q ≤ j → j < q + k → ls j ≤ 20) → (0 < k → ls q ≠ 16) → ∀ p ∈ chOut ls q k r, p
  | 0, _, _ => hr
  | 1, h, h16 => all_cons (decide_eq_false (by have := h q (Nat.le_refl _) (by omega); omega)) (all_cons (beq16 (h16 (by omega))) hr)
  | k + 2, h, h16 => all_cons (decide_eq_false (by have := h q (Nat.le_refl _) (by omega); omega)) (all_cons (beq16 (h16 (by omega))) (all_cons (decide_eq_false (by have := h (q + 1) (by omega) (by omega); omega))
      (repC_all (beq16 (h16 (by omega))) (chOver_all hr k (q + 2) fun j h1 h2 => h j (by omega) (by omega)) 7)))
theorem exC_all {ls : Nat → Nat} {q : Nat} : ∀ i : Nat, (∀ j, q ≤ j → j < q + i → ls j ≤ 20) → (0 < i → ls q ≠ 16) → ls (q + i) > 20 → ∀ p ∈ exC ls q i, p
  | 0, _, _, hx => all_cons (decide_eq_true (by rw [Nat.add_zero] at hx; omega)) all_nil
  | 1, h, h16, hx => all_cons (decide_eq_false (by have := h q (Nat.le_refl _) (by omega); omega)) (all_cons (beq16 (h16 (by omega))) (all_cons (decide_eq_true (by omega)) all_nil))
  | i + 2, h, h16, hx => all_cons (decide_eq_false (by have := h q (Nat.le_refl _) (by omega); omega)) (all_cons (beq16 (h16 (by omega))) (all_cons (decide_eq_false (by have := h (q + 1) (by omega) (by omega); omega))
      (repC_all (beq16 (h16 (by omega))) (chOver_all (all_cons (decide_eq_true (by rw [show q + 2 + i = q + (i + 2) from by omega]; omega)) all_nil) i (q + 2) fun j h1 h2 => h j (by omega) (by omega)) 7)))
theorem chRef_all {X Y : Nat → BitVec 8} {n1 n2 : Nat} {r : List Prop} (h1 : 16 ≤ n1) (h2 : 16 ≤ n2) (hr : ∀ p ∈ r, p) : ∀ q : Nat, q ≤ 10 → ∀ p ∈ chRef X Y n1 n2 q r, p
  | 0, _ => all_cons (byteF_isB X) (all_cons (byteF_isB Y) (all_cons ⟨by omega, by omega⟩ hr))
  | q + 1, hq => all_cons (byteF_isB X) (all_cons (byteF_isB Y) (all_cons ⟨by omega, by omega⟩ (all_cons ⟨by omega, decide_eq_true (by omega)⟩ hr)))
theorem chIn0_all {X Y : Nat → BitVec 8} {n1 n2 : Nat} {r : List Prop} (h1 : 16 ≤ n1) (h2 : 16 ≤ n2) (hr : ∀ p ∈ r, p) : ∀ p ∈ chIn0 X Y n1 n2 r, p := all_cons (byteF_isB X) (all_cons (by omega) (all_cons (byteF_isB Y) (all_cons (by omega) hr)))
theorem chBl_all {S : Nat → ByteArray} {Z : Nat → Nat → BitVec 8} {ns : Nat → Nat} {i : Nat} {r : List Prop} (h : 16 ≤ ns i) (hr : ∀ p ∈ r, p) : ∀ p ∈ chBl S Z ns i r, p :=
  all_cons (byteF_isB (Z i)) (all_cons ⟨by omega, by omega⟩ (all_cons (by omega) (all_cons (by omega) (all_cons (by rw [decide_eq_true rfl]; rfl) hr))))
theorem chT0_all {S : Nat → ByteArray} {Z : Nat → Nat → BitVec 8} {ns : Nat → Nat} {a : Int} {r : Nat → List Prop} : ∀ (m i : Nat), (∀ p ∈ r (i + m), p) → (∀ j, i ≤ j → j < i + m → 16 ≤ ns j) → (∀ j, i ≤ j → j < i + m → ¬ ((16 * (j + 1) : Nat) : Int) ≥ wI a) → ∀ p ∈ chT0 S Z ns a m r i, p
  | 0, _, hr, _, _ => hr
  | m + 1, i, hr, h, hw => chBl_all (h i (Nat.le_refl _) (by omega)) (all_cons (decide_eq_false (hw i (Nat.le_refl _) (by omega))) (chT0_all m (i + 1) (by rw [show i + 1 + m = i + (m + 1) from by omega]; exact hr) (fun j h1 h2 => h j (by omega) (by omega)) fun j h1 h2 => hw j (by omega) (by omega)))
theorem chT1_all {S : Nat → ByteArray} {Z : Nat → Nat → BitVec 8} {ns : Nat → Nat} {r : Nat → List Prop} : ∀ (m i : Nat), (∀ p ∈ r (i + m), p) → (∀ j, i ≤ j → j < i + m → 16 ≤ ns j) → ∀ p ∈ chT1 S Z ns m r i, p
  | 0, _, hr, _ => hr
  | m + 1, i, hr, h => chBl_all (h i (Nat.le_refl _) (by omega)) (chT1_all m (i + 1) (by rw [show i + 1 + m = i + (m + 1) from by omega]; exact hr) fun j h1 h2 => h j (by omega) (by omega))
theorem chEnd_all {ls : Nat → Nat} {q : Nat} {r : List Prop} (hr : ∀ p ∈ r, p) : ∀ k : Nat, (0 < k → ls q ≠ 16) → ∀ p ∈ chEnd ls q k r, p
  | 0, _ => hr
  | k + 1, h => all_cons (by have := h (by omega); rw [bne_iff_ne]; omega) hr
theorem chP_all {X Y : Nat → BitVec 8} {n1 n2 : Nat} {Z : Nat → Nat → BitVec 8} {ls ns : Nat → Nat} {a : Int} {S : Nat → ByteArray} {q k b : Nat} (h1 : 16 ≤ n1) (h2 : 16 ≤ n2) (hq : q ≤ 10) (hn : ∀ j, j < q → 16 ≤ ns j) (hl : ∀ j, q ≤ j → j < q + k → ls j ≤ 20) (h16 : 0 < k → ls q ≠ 16)
    (hb : b ≤ q) (hw : ∀ j, j < b → ¬ ((16 * (j + 1) : Nat) : Int) ≥ wI a) (hw2 : b < q → ((16 * (b + 1) : Nat) : Int) ≥ wI a) : ∀ p ∈ chP X Y n1 n2 Z ls ns a S q k b, p := by
  have hlast : ∀ p ∈ chT1 S Z ns q (fun _ => chEnd ls q k []) 0, p := chT1_all q 0 (chEnd_all all_nil k h16) fun j _ h2 => hn j (by omega)
  refine chIn_all (chOut_all (chRef_all h1 h2 (chIn0_all h1 h2 (chIn0_all h1 h2 ?_)) q hq) k hl h16) q 0 fun j _ h2 => hn j (by omega)
  unfold chFirst
  cases hbq : Nat.blt b q with
  | true =>
    have hlt : b < q := Nat.le_of_ble_eq_true hbq
    refine chT0_all b 0 ?_ (fun j _ h2 => hn j (by omega)) fun j _ h2 => hw j (by omega)
    rw [Nat.zero_add]
    exact chBl_all (hn b hlt) (all_cons (decide_eq_true (hw2 hlt)) hlast)
  | false =>
    have hge : ¬ b < q := fun h => by rw [show Nat.blt b q = true from Nat.ble_eq_true_of_le h] at hbq; cases hbq
    have : b = q := by omega
    subst this
    exact chT0_all b 0 (chEnd_all hlast k h16) (fun j _ h2 => hn j (by omega)) fun j _ h2 => hw j (by omega)
theorem le2_all {K K2 : Nat} {r : List Prop} (h : ¬ K > 20) (h2 : ¬ K2 > 20) (hr : ∀ p ∈ r, p) : ∀ p ∈ le2 K K2 r, p := all_cons (decide_eq_false (by omega)) (all_cons (decide_eq_false (by omega)) hr)
theorem bne16 {n : Nat} (h : n ≠ 16) : ((n : Int) != 16) = true := by rw [bne_iff_ne]; omega
theorem bC_all {K K2 : Nat} (h : K2 ≠ 16) : ∀ p ∈ bC (decide (K ≠ 16)) K K2, p := by
  by_cases hk : K = 16
  · rw [decide_eq_false (by simpa using hk)]
    exact all_cons (beq16t hk) (all_cons (beq16 h) (repC_all (bne16 h) all_nil 2))
  · rw [decide_eq_true hk]
    exact repC_all (beq16 hk) (repC_all (bne16 h) all_nil 2) 4
theorem cC_all {Y : Nat → BitVec 8} {n2 K : Nat} (h : K ≠ 16) (h2 : 16 ≤ n2) : ∀ p ∈ cC Y n2 K, p := repC_all (beq16 h) (all_cons h (all_cons (byteF_isB Y) (all_cons (by omega) (all_cons h (all_cons (byteF_isB Y) (all_cons (by omega) all_nil)))))) 4

/- The start. -/
/-- a slice of slices of bytes that came in -/
def BlkRow (w : World) (a : Option Addr) (len cap : Nat) (A : Nat → Option Addr) (L C : Nat → Nat) (Z : Nat → Nat → BitVec 8) : Prop :=
  (a = none ∧ len = 0 ∧ cap = 0) ∨ ∃ x, a = some x ∧ x.spot = none ∧ len ≤ cap ∧ ∀ r, r < len → w.cell? (x.add r) = some (.slice (A r) (L r) (C r)) ∧ L r ≤ C r ∧ (0 < C r → ∃ y, A r = some y ∧ y.spot = none ∧ ∀ i, i < C r → w.cell? (y.add i) = some (.int .u8 ((Z r i).toNat : Int)))
theorem add_none {x : Addr} (h : x.spot = none) (i : Nat) : (x.add i : Addr) = ⟨x.block, x.off + i, none⟩ := by
  cases x; cases h
  unfold Addr.add
  split
  · rename_i h0; rw [h0]; rfl
  · rfl
/-- cells that are read alone -/
theorem start_cells {w : World} {β : Val} {H : List SO} (h : HeapRel Tryd.prog (fun _ => False) w β H w) {x : Addr} (hs : x.spot = none) {es : List SV} {vs : List Value} (hd : SV.denL β es = some vs) (hx : ∀ i v, vs[i]? = some v → w.cell? (x.add i) = some v) :
    ∃ β', HeapRel Tryd.prog (fun _ => False) w β' (H ++ [.row (.lst es)]) w ∧ β.le β' ∧ β' H.length = some (Go.Sim.Loc.mk x.block x.off 0) := by
  have hle := Val.upd_le (β := β) (l := Go.Sim.Loc.mk x.block x.off 0) (h.bound _ (Nat.le_refl _))
  have hsn := h.snoc (Go.Sim.Loc.mk x.block x.off 0) (.row (.lst es)) ?_ (fun ho => by cases ho)
  · exact ⟨_, hsn.1, hsn.2, Val.upd_same ..⟩
  · refine ⟨_, vs, Val.upd_same .., SV.denL_mono hle _ hd, fun i v hv => ?_⟩
    have hc := hx i v hv
    rw [add_none hs] at hc
    refine ⟨?_, fun f => f, hc⟩
    unfold World.cell? at hc
    by_cases hb : x.block < w.heap.size
    · exact hb
    · have hn : w.heap[x.block]? = none := Array.getElem?_eq_none (by omega)
      simp only [hn] at hc
      cases hc
theorem start_gone {w : World} {β : Val} {H : List SO} (h : HeapRel Tryd.prog (fun _ => False) w β H w) : ∃ β', HeapRel Tryd.prog (fun _ => False) w β' (H ++ [.gone]) w ∧ β.le β' := by
  have hsn := h.snoc (Go.Sim.Loc.mk 0 0 0) .gone trivial (fun ho => by cases ho)
  exact ⟨_, hsn.1, hsn.2⟩
section
variable {w : World} {A : Nat → Option Addr} {L C : Nat → Nat} {Z : Nat → Nat → BitVec 8}
theorem rows_start : ∀ (q i : Nat) (H : List SO) (β : Val), HeapRel Tryd.prog (fun _ => False) w β H w → H.length = 3 + i →
    (∀ j, i ≤ j → j < i + q → L j = 16 ∧ L j ≤ C j ∧ (0 < C j → ∃ y, A j = some y ∧ y.spot = none ∧ ∀ t, t < C j → w.cell? (y.add t) = some (.int .u8 ((Z j t).toNat : Int)))) →
    ∃ β', HeapRel Tryd.prog (fun _ => False) w β' (H ++ rowsE Z C q i) w ∧ β.le β' ∧ SV.denL β' (wholeE C q i) = some ((List.range' i q).map fun r => Value.slice (A r) (L r) (C r))
  | 0, _, H, β, hH, _, _ => ⟨β, by show HeapRel _ _ _ _ (H ++ []) _; rw [List.append_nil]; exact hH, Val.le_refl β, rfl⟩
  | q + 1, i, H, β, hH, hl, h => by
    obtain ⟨h16, hle, hc⟩ := h i (Nat.le_refl _) (by omega)
    obtain ⟨y, hy, hs, hcell⟩ := hc (by omega)
    obtain ⟨β1, hH1, hle1, hd1⟩ := start_row (len := L i) hH hs hle hcell
    obtain ⟨β2, hH2, hle2, hd2⟩ := rows_start q (i + 1) (H ++ [rowF (Z i) (C i)]) β1 hH1 (by rw [List.length_append, hl]; rfl) fun j h1 h2 => h j (by omega) (by omega)
    refine ⟨β2, ?_, Val.le_trans hle1 hle2, ?_⟩
    · show HeapRel _ _ _ _ (H ++ (rowF (Z i) (C i) :: rowsE Z C q (i + 1))) _
      rw [List.append_assoc] at hH2
      exact hH2
    · rw [List.range'_succ, List.map_cons]
      refine denL_cons.2 ⟨_, _, ?_, hd2, rfl⟩
      rw [hl] at hd1
      rw [hy, h16]
      rw [h16] at hd1
      exact SV.den_mono hle2 _ hd1
theorem other_den {β : Val} : ∀ (k q : Nat), SV.denL β (otherE A L C k q) = some ((List.range' q k).map fun r => Value.slice (A r) (L r) (C r))
  | 0, _ => rfl
  | k + 1, q => by
    rw [List.range'_succ, List.map_cons]
    exact denL_cons.2 ⟨_, _, rfl, other_den k (q + 1), rfl⟩
theorem rowsE_length : ∀ q i : Nat, (rowsE Z C q i).length = q
  | 0, _ => rfl
  | q + 1, i => congrArg (· + 1) (rowsE_length q (i + 1))
theorem chain_start {β : Val} {e1 e2 : SO} (hH : HeapRel Tryd.prog (fun _ => False) w β [tabR, e1, e2] w) {x : Addr} {q k cap : Nat} (hs : x.spot = none) (hcap : q + k ≤ cap)
    (hx : ∀ r, r < q + k → w.cell? (x.add r) = some (.slice (A r) (L r) (C r)) ∧ L r ≤ C r ∧ (0 < C r → ∃ y, A r = some y ∧ y.spot = none ∧ ∀ i, i < C r → w.cell? (y.add i) = some (.int .u8 ((Z r i).toNat : Int)))) (h16 : ∀ r, r < q → L r = 16) :
    ∃ β', HeapRel Tryd.prog (fun _ => False) w β' (chRows e1 e2 Z A L C C q k) w ∧ β.le β' ∧ (lS q k cap).den β' = some (.slice (some x) (q + k) cap) := by
  obtain ⟨β1, hH1, hle1, hd1⟩ := rows_start q 0 [tabR, e1, e2] β hH rfl fun j _ h2 => ⟨h16 j (by omega), (hx j (by omega)).2⟩
  have hd : SV.denL β1 (app (wholeE C q 0) (otherE A L C k q)) = some ((List.range (q + k)).map fun r => Value.slice (A r) (L r) (C r)) := by
    rw [app_eq, List.range_eq_range', List.range'_append_1.symm, List.map_append, Nat.zero_add]
    exact denL_append hd1 (other_den k q)
  obtain ⟨β2, hH2, hle2, hb⟩ := start_cells hH1 hs hd fun i v hv => by
    rw [List.getElem?_map] at hv
    cases hi : (List.range (q + k))[i]? with
    | none => rw [hi] at hv; cases hv
    | some j =>
      rw [hi] at hv; cases hv
      obtain ⟨h1, h2⟩ := List.getElem?_eq_some_iff.1 hi
      rw [List.getElem_range] at h2
      subst h2
      exact (hx i (by simpa using h1)).1
  refine ⟨β2, ?_, Val.le_trans hle1 hle2, ?_⟩
  · unfold chRows
    rw [app_eq, app_eq, ← List.append_assoc]
    exact hH2
  · have hb : β2 (3 + q) = some (Go.Sim.Loc.mk x.block x.off 0) := by
      rw [List.length_append, rowsE_length] at hb
      exact hb
    unfold lS
    rw [den_slice]
    refine ⟨x, cap, ?_, rfl, hcap, rfl⟩
    show (β2 (3 + q)).map _ = _
    rw [hb]
    cases x; cases hs
    rfl
end
theorem first_not {p : Nat → Prop} [DecidablePred p] : ∀ n : Nat, ∃ q, q ≤ n ∧ (∀ r, r < q → p r) ∧ (q < n → ¬ p q)
  | 0 => ⟨0, Nat.le_refl _, fun _ h => by omega, fun h => by omega⟩
  | n + 1 => by
    obtain ⟨q, h1, h2, h3⟩ := first_not (p := p) n
    by_cases hq : q < n
    · exact ⟨q, by omega, h2, fun _ => h3 hq⟩
    · have : q = n := by omega
      subst this
      by_cases hp : p q
      · refine ⟨q + 1, Nat.le_refl _, fun r hr => ?_, fun h => by omega⟩
        by_cases hrq : r < q
        · exact h2 r hrq
        · rw [show r = q from by omega]; exact hp
      · exact ⟨q, by omega, h2, fun _ => hp⟩
theorem chains_law {w : World} {β : Val} (hH : HeapRel Tryd.prog (fun _ => False) w β [tabR] w) (hG : GlobRel globR β) {a0 a1 a2 : Option Addr} {len0 cap0 len1 cap1 len2 cap2 : Nat} {X Y : Nat → BitVec 8} (h0 : ByteRow w a0 len0 cap0 X) (h1 : ByteRow w a1 len1 cap1 Y)
    {A : Nat → Option Addr} {L C : Nat → Nat} {Z : Nat → Nat → BitVec 8} (h2 : BlkRow w a2 len2 cap2 A L C Z) (a : Int) :
    Calls Tryd.prog 3 #[.slice a0 len0 cap0, .slice a1 len1 cap1, .slice a2 len2 cap2, .int .i64 a] w fun e w' => e = .returned (.bool true) ∧ Below w.heap.size w w' := by
  have go : ∀ {β' : Val} {H' : List SO} {args : List SV} {ds : List Bool} {ps : List Prop}, HeapRel Tryd.prog (fun _ => False) w β' H' w → β.le β' → SV.denL β' args = some [.slice a0 len0 cap0, .slice a1 len1 cap1, .slice a2 len2 cap2, .int .i64 a] → chRun args H' ds = chYes ps → (∀ p ∈ ps, p) →
      Calls Tryd.prog 3 #[.slice a0 len0 cap0, .slice a1 len1 cap1, .slice a2 len2 cap2, .int .i64 a] w fun e w' => e = .returned (.bool true) ∧ Below w.heap.size w w' := fun hH' hle ha h hp => law_by cfgChOK 20000 hH' (hG.mono hle) ha _ h hp
  have vals : ∀ β' : Val, SV.denL β' [xvS a0 len0 cap0, xvS a1 len1 cap1, xvS a2 len2 cap2, .int .i64 (.sym a)] = some [.slice a0 len0 cap0, .slice a1 len1 cap1, .slice a2 len2 cap2, .int .i64 a] := fun _ => rfl
  by_cases hk : len0 > 20
  · exact go hH (Val.le_refl _) (vals β) (big_1 cap2 len2 len0 cap0 len1 cap1 a0 a1 a2 a) (repC_all (decide_eq_true (by omega)) all_nil 4)
  by_cases hk2 : len1 > 20
  · exact go hH (Val.le_refl _) (vals β) (big_2 cap2 len2 len0 cap0 len1 cap1 a0 a1 a2 a) (all_cons (decide_eq_false (by omega)) (repC_all (decide_eq_true (by omega)) all_nil 4))
  by_cases hl : len2 > 10
  · exact go hH (Val.le_refl _) (vals β) (big_3 cap2 len2 len0 cap0 len1 cap1 a0 a1 a2 a) (le2_all hk hk2 (all_cons (decide_eq_true (by omega)) all_nil))
  obtain ⟨βg1, hHg1, hleg1⟩ := start_gone hH
  obtain ⟨βg, hHg, hleg2⟩ := start_gone hHg1
  have hleg := Val.le_trans hleg1 hleg2
  have hkey : len0 = 16 → ∃ x, a0 = some x ∧ x.spot = none ∧ 16 ≤ cap0 ∧ ∀ i, i < cap0 → w.cell? (x.add i) = some (.int .u8 ((X i).toNat : Int)) := fun he => by
    rcases h0 with ⟨_, h, _⟩ | ⟨x, hx, hs, hc, _, hcell⟩
    · omega
    · exact ⟨x, hx, hs, by omega, hcell⟩
  have hiv : len1 = 16 → ∃ x, a1 = some x ∧ x.spot = none ∧ 16 ≤ cap1 ∧ ∀ i, i < cap1 → w.cell? (x.add i) = some (.int .u8 ((Y i).toNat : Int)) := fun he => by
    rcases h1 with ⟨_, h, _⟩ | ⟨x, hx, hs, hc, _, hcell⟩
    · omega
    · exact ⟨x, hx, hs, by omega, hcell⟩
  -- the heaps: with key and IV; with an IV alone
  have hgood : len0 = 16 → len1 = 16 → 16 ≤ cap0 ∧ 16 ≤ cap1 ∧ ∃ β', HeapRel Tryd.prog (fun _ => False) w β' [tabR, rowF X cap0, rowF Y cap1] w ∧ β.le β' ∧ (kyS cap0).den β' = some (.slice a0 len0 cap0) ∧ (ivS cap1).den β' = some (.slice a1 len1 cap1) := fun e0 e1 => by
    obtain ⟨x, rfl, hs, hc, hcell⟩ := hkey e0
    obtain ⟨y, rfl, hs2, hc2, hcell2⟩ := hiv e1
    obtain ⟨β1, hH1, hle1, hd1⟩ := start_row (len := 16) hH hs hc hcell
    obtain ⟨β2, hH2, hle2, hd2⟩ := start_row (len := 16) hH1 hs2 hc2 hcell2
    rw [e0, e1]
    exact ⟨hc, hc2, β2, hH2, Val.le_trans hle1 hle2, SV.den_mono hle2 _ hd1, hd2⟩
  have hvec : len1 = 16 → 16 ≤ cap1 ∧ ∃ β', HeapRel Tryd.prog (fun _ => False) w β' [tabR, .gone, rowF Y cap1] w ∧ β.le β' ∧ (ivS cap1).den β' = some (.slice a1 len1 cap1) := fun e1 => by
    obtain ⟨y, rfl, hs2, hc2, hcell2⟩ := hiv e1
    obtain ⟨β2, hH2, hle2, hd2⟩ := start_row (len := 16) hHg1 hs2 hc2 hcell2
    rw [e1]
    exact ⟨hc2, β2, hH2, Val.le_trans hleg1 hle2, hd2⟩
  rcases h2 with ⟨rfl, rfl, rfl⟩ | ⟨x, rfl, hsx, hcap, hx⟩
  · by_cases hv : len1 = 16
    · by_cases hkk : len0 = 16
      · obtain ⟨hc0, hc1, β', hH', hle, hd0, hd1⟩ := hgood hkk hv
        exact go hH' hle (denL_cons.2 ⟨_, _, hd0, denL_cons.2 ⟨_, _, hd1, rfl, rfl⟩, rfl⟩) (nil_good X Y cap0 cap0 cap1 cap1 a) (chRef_all hc0 hc1 (chIn0_all hc0 hc1 (chIn0_all hc0 hc1 all_nil)) 0 (by omega))
      · obtain ⟨hc1, β', hH', hle, hd1⟩ := hvec hv
        exact go hH' hle (args := [xvS a0 len0 cap0, ivS cap1, .nilSlice, .int .i64 (.sym a)]) (denL_cons.2 ⟨_, _, rfl, denL_cons.2 ⟨_, _, hd1, rfl, rfl⟩, rfl⟩) (nil_key Y cap1 cap1 len0 cap0 a0 a) (all_cons (decide_eq_false (by omega)) (cC_all hkk hc1))
    · by_cases hkk : len0 = 16
      · have hb := bC_all (K := len0) hv
        rw [decide_eq_false (by simpa using hkk)] at hb
        exact go hHg hleg (args := [xvS a0 len0 cap0, xvS a1 len1 cap1, .nilSlice, .int .i64 (.sym a)]) rfl (nil_bad2 len0 cap0 len1 cap1 a0 a1 a) (le2_all hk hk2 hb)
      · have hb := bC_all (K := len0) hv
        rw [decide_eq_true hkk] at hb
        exact go hHg hleg (args := [xvS a0 len0 cap0, xvS a1 len1 cap1, .nilSlice, .int .i64 (.sym a)]) rfl (nil_bad1 len0 cap0 len1 cap1 a0 a1 a) (le2_all hk hk2 hb)
  obtain ⟨q, hq, hq16, hqn⟩ := first_not (p := fun r => L r = 16) len2
  obtain ⟨k, rfl⟩ : ∃ k, len2 = q + k := ⟨len2 - q, by omega⟩
  have h16 : 0 < k → L q ≠ 16 := fun h => hqn (by omega)
  have hns : ∀ j, j < q → 16 ≤ C j := fun j hj => by have := (hx j (by omega)).2.1; rw [hq16 j hj] at this; exact this
  obtain ⟨i, hi, hi20, hin⟩ := first_not (p := fun r => L r ≤ 20) (q + k)
  by_cases hlt : i < q + k
  · -- the first loop is left
    have hqi : q ≤ i := by
      rcases Nat.lt_or_ge i q with h | h
      · have := hin hlt
        rw [hq16 i h] at this
        exact absurd (by omega) this
      · exact h
    obtain ⟨d, rfl⟩ : ∃ d, i = q + d := ⟨i - q, by omega⟩
    obtain ⟨β', hH', hle, hd⟩ := chain_start hHg hsx hcap hx hq16
    have hbig : L (q + d) > 20 := by have := hin hlt; omega
    refine go hH' (Val.le_trans hleg hle) (denL_cons.2 ⟨_, _, rfl, denL_cons.2 ⟨_, _, rfl, denL_cons.2 ⟨_, _, hd, rfl, rfl⟩, rfl⟩, rfl⟩) (ex_all cap2 len0 cap0 len1 cap1 a0 a1 Z A L C C a (q := q) (k := k) (i := d) (by omega) (by omega) (by omega))
      (le2_all hk hk2 (chIn_all (exC_all d (fun j h1 h2 => hi20 j (by omega)) (fun h => h16 (by omega)) hbig) q 0 fun j _ h2 => hns j (by omega)))
  · have hall : ∀ j, q ≤ j → j < q + k → L j ≤ 20 := fun j _ h2 => hi20 j (by omega)
    by_cases hv : len1 = 16
    · by_cases hkk : len0 = 16
      · obtain ⟨hc0, hc1, β1, hH1, hle1, hd0, hd1⟩ := hgood hkk hv
        obtain ⟨β', hH', hle, hd⟩ := chain_start hH1 hsx hcap hx hq16
        obtain ⟨b, hb, hbw, hbn⟩ := first_not (p := fun j => ¬ ((16 * (j + 1) : Nat) : Int) ≥ wI a) q
        exact go hH' (Val.le_trans hle1 hle) (denL_cons.2 ⟨_, _, SV.den_mono hle _ hd0, denL_cons.2 ⟨_, _, SV.den_mono hle _ hd1, denL_cons.2 ⟨_, _, hd, rfl, rfl⟩, rfl⟩, rfl⟩) (ch_all X Y cap0 cap0 cap1 cap1 cap2 Z A L C C a (q := q) (k := k) (b := b) (by omega) (by omega) hb)
          (chP_all hc0 hc1 (by omega) hns hall h16 hb hbw fun h => Classical.not_not.1 (hbn h))
      · obtain ⟨hc1, β1, hH1, hle1, hd1⟩ := hvec hv
        obtain ⟨β', hH', hle, hd⟩ := chain_start hH1 hsx hcap hx hq16
        exact go hH' (Val.le_trans hle1 hle) (denL_cons.2 ⟨_, _, rfl, denL_cons.2 ⟨_, _, SV.den_mono hle _ hd1, denL_cons.2 ⟨_, _, hd, rfl, rfl⟩, rfl⟩, rfl⟩) (key_all Y cap1 cap1 cap2 len0 cap0 a0 Z A L C C a (q := q) (k := k) (by omega) (by omega))
          (all_cons (decide_eq_false (by omega)) (chIn_all (chOut_all (cC_all hkk hc1) k hall h16) q 0 fun j _ h2 => hns j (by omega)))
    · obtain ⟨β', hH', hle, hd⟩ := chain_start hHg hsx hcap hx hq16
      have ha := denL_cons.2 ⟨_, _, (rfl : (xvS a0 len0 cap0).den β' = some (.slice a0 len0 cap0)), denL_cons.2 ⟨_, _, (rfl : (xvS a1 len1 cap1).den β' = some (.slice a1 len1 cap1)), denL_cons.2 ⟨_, _, hd, (rfl : SV.denL β' [.int .i64 (.sym a)] = some [.int .i64 a]), rfl⟩, rfl⟩, rfl⟩
      have hb := bC_all (K := len0) hv
      by_cases hkk : len0 = 16
      · rw [decide_eq_false (by simpa using hkk)] at hb
        exact go hH' (Val.le_trans hleg hle) ha (bad_false cap2 len0 cap0 len1 cap1 a0 a1 Z A L C C a (q := q) (k := k) (by omega) (by omega)) (le2_all hk hk2 (chIn_all (chOut_all hb k hall h16) q 0 fun j _ h2 => hns j (by omega)))
      · rw [decide_eq_true hkk] at hb
        exact go hH' (Val.le_trans hleg hle) ha (bad_true cap2 len0 cap0 len1 cap1 a0 a1 Z A L C C a (q := q) (k := k) (by omega) (by omega)) (le2_all hk hk2 (chIn_all (chOut_all hb k hall h16) q 0 fun j _ h2 => hns j (by omega)))

end Go.Proofs.YtdnaaeagllejjaaDoor.Aes


/-
  CtsChains: the blocks that came in.
-/
namespace Go.Proofs.YtdnaaeagllejjaaDoor.Aes
open Go.Sim
open Go.Proofs

theorem spot_cell {w : World} {x : Addr} {v : Value} (h : w.cell? x = some v) : x.spot = none := by
  obtain ⟨b, o, sp⟩ := x
  cases sp with
  | none => rfl
  | some s =>
    unfold World.cell? at h
    split at h <;> simp at h
theorem blkRow_of {w : World} {a : Addr} {base len cap : Nat} {A : Nat → Option Addr} {L C : Nat → Nat} {Z : Nat → List Int} (hs : a.spot = none) (hcap : len ≤ cap)
    (h : ∀ r, r < cap → w.cell? (a.add r) = some (.slice (A r) (L r) (C r)) ∧ L r ≤ C r ∧ C r ≤ maxLen ∧ (Z r).length = C r ∧ (∀ n ∈ Z r, (Lit.int .u8 n).wf = true) ∧ (A r = none → C r = 0) ∧
      ∀ a', A r = some a' → base ≤ a'.block ∧ ∀ c, c < C r → w.cell? (a'.add c) = some (.int .u8 ((Z r).getD c 0))) : BlkRow w (some a) len cap A L C fun r i => BitVec.ofInt 8 ((Z r).getD i 0) := by
  refine .inr ⟨a, rfl, hs, hcap, fun r hr => ?_⟩
  obtain ⟨h1, h2, _, h4, h5, h6, h7⟩ := h r (by omega)
  refine ⟨h1, h2, fun hC => ?_⟩
  cases hA : A r with
  | none => have := h6 hA; omega
  | some y =>
    obtain ⟨_, hc⟩ := h7 y hA
    have hspot : y.spot = none := by
      have := spot_cell (hc 0 hC)
      cases y
      exact this
    refine ⟨y, rfl, hspot, fun i hi => ?_⟩
    rw [hc i hi]
    have hm : (Z r).getD i 0 ∈ Z r := by
      rw [List.getD_eq_getElem?_getD, List.getElem?_eq_getElem (by omega)]
      exact List.getElem_mem _
    have hw := h5 _ hm
    have hr : 0 ≤ (Z r).getD i 0 ∧ (Z r).getD i 0 ≤ 255 := by
      generalize (Z r).getD i 0 = n at hw
      simp [Lit.wf, IntKind.min, IntKind.max, IntKind.signed, IntKind.bits] at hw
      omega
    have : ((BitVec.ofInt 8 ((Z r).getD i 0)).toNat : Int) = (Z r).getD i 0 := by
      rw [BitVec.toNat_ofInt]
      omega
    show _ = some (Value.int .u8 ((BitVec.ofInt 8 ((Z r).getD i 0)).toNat : Int))
    rw [this]

end Go.Proofs.YtdnaaeagllejjaaDoor.Aes


/-
  The start of a law that reads the reference's table.
-/
namespace Go.Proofs.YtdnaaeagllejjaaDoor.Aes
open Go.Sim
open Go.Proofs

theorem gTab : Tryd.prog.globalNamed "watchword/watchwordref06.substitutes" = some 0 := by kernel_rfl
theorem tTab : (Tryd.prog.globals[0]?).map (·.type) = some 49 := by kernel_rfl
theorem uTab : Tryd.prog.underlying 49 = some (.array 256 5) := by kernel_rfl
theorem uByte : Tryd.prog.underlying 5 = some (.int .u8) := by kernel_rfl
theorem lx_den {γ : Val} : ∀ T : List Int, SV.denL γ (lx T) = some (T.map (Value.int .u8))
  | [] => rfl
  | _ :: T => denL_cons.2 ⟨_, _, rfl, lx_den T, rfl⟩
theorem tab_start {W : World} (hL : laidMetH Tryd.prog [("watchword/watchwordref06.substitutes", Rows.laid_watchword_watchwordref06_substitutes)] W) : ∃ β, HeapRel Tryd.prog (fun _ => False) W β [tabR] W ∧ GlobRel globR β := by
  rw [MakeChecks.laidMetH_plain _ _ _ (by kernel_rfl)] at hL
  have e : (Rows.laid_watchword_watchwordref06_substitutes : DataW Unit) = Lib.tabData .u8 subsI := by kernel_rfl
  rw [e] at hL
  have hT := Lib.tabIs_of_head gTab tTab uTab uByte (by kernel_rfl) (by kernel_rfl) hL
  have hlen : subsI.length = 256 := by kernel_rfl
  have hsn := (HeapRel.start Tryd.prog (fun _ => False) W).snoc (Go.Sim.Loc.mk 0 0 0) tabR ?_ (fun ho => by cases ho)
  · refine ⟨_, hsn.1, fun g nm hg => ?_⟩
    obtain ⟨h1, h2⟩ := boolC_opt (show boolC (Nat.beq g 0) (some 0) none = some nm from hg)
    cases h2
    exact ⟨_, Val.upd_same .., (beq_spec h1).symm, rfl⟩
  · refine ⟨_, _, Val.upd_same .., lx_den subsI, fun i x hx => ?_⟩
    rw [List.getElem?_map] at hx
    cases hi : subsI[i]? with
    | none => rw [hi] at hx; cases hx
    | some t =>
      rw [hi] at hx; cases hx
      have hlt : i < subsI.length := (List.getElem?_eq_some_iff.1 hi).1
      have hc := hT.cell gTab i hlt
      have e : subsI.getD i 0 = t := by rw [List.getD_eq_getElem?_getD, hi]; rfl
      rw [e] at hc
      refine ⟨?_, fun f => f, by simpa using hc⟩
      unfold World.cell? at hc
      by_cases hb : (0 : Nat) < W.heap.size
      · exact hb
      · have hn : W.heap[(0 : Nat)]? = none := Array.getElem?_eq_none (by omega)
        simp only [hn] at hc
        cases hc

end Go.Proofs.YtdnaaeagllejjaaDoor.Aes

