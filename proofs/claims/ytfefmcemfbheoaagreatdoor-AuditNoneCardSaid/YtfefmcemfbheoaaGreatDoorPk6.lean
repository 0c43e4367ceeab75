/-
  AuditNone: the law.
-/
import Derived.Test.YtfefmcemfbheoaaGreatDoorZAud3
namespace Go.Proofs.YtfefmcemfbheoaaGreatDoor.Aes
open Go.Sim
open Go.Proofs
open Go.RowKit

section
variable (x : EvA) (b1 b2 b3 : Bool)
structure EvOK (x : EvA) : Prop where
  (h1 : x.n1 ≤ x.k1) (h2 : x.n2 ≤ x.k2) (h3 : x.n3 ≤ x.k3) (h4 : x.n4 ≤ x.k4)
theorem pN_all {b : Bool} {n k : Nat} {S : Nat → ByteArray} {q : List Prop} (h : n ≤ k) (hq : ∀ p ∈ q, p) : ∀ p ∈ pN b n k S q, p := by
  cases b with
  | true => exact all_cons ⟨h, fun _ => rfl⟩ hq
  | false => exact hq
variable {x b1 b2 b3}
theorem q1_all (h : EvOK x) (f1 : pB b1 x.S1 x.n1 x.r1 = false) : ∀ p ∈ q1 x b1, p := pN_all h.h1 (rep_all f1 4)
theorem q2_all (h : EvOK x) (f1 : pB b1 x.S1 x.n1 x.r1 = true) (f2 : pB b2 x.S2 x.n2 x.r2 = false) : ∀ p ∈ q2 x b1 b2, p := pN_all h.h1 (all_cons f1 (pN_all h.h2 (rep_all f2 4)))
theorem q3_all (h : EvOK x) (f1 : pB b1 x.S1 x.n1 x.r1 = true) (f2 : pB b2 x.S2 x.n2 x.r2 = true) (f3 : pB b3 x.S3 x.n3 x.r3 = false) : ∀ p ∈ q3 x b1 b2 b3, p := pN_all h.h1 (all_cons f1 (pN_all h.h2 (all_cons f2 (pN_all h.h3 (rep_all f3 5)))))
theorem q0_all (h : EvOK x) (f1 : pB b1 x.S1 x.n1 x.r1 = true) (f2 : pB b2 x.S2 x.n2 x.r2 = true) (f3 : pB b3 x.S3 x.n3 x.r3 = true) {q : List Prop} (hq : ∀ p ∈ q, p) : ∀ p ∈ q0 x b1 b2 b3 q, p := pN_all h.h1 (all_cons f1 (pN_all h.h2 (all_cons f2 (pN_all h.h3 (all_cons f3 hq)))))
/-- one of the six paths -/
theorem an_paths (h : EvOK x) {Q : List Prop → Prop} (h1 : Q (q1 x b1)) (h2 : Q (q2 x b1 b2)) (h3 : Q (q3 x b1 b2 b3)) (h4 : Q (q4 x b1 b2 b3)) (h5 : ∀ b, Q (q5 x b1 b2 b3 b)) : ∃ l, Q l ∧ ∀ p ∈ l, p := by
  cases f1 : pB b1 x.S1 x.n1 x.r1 with
  | false => exact ⟨_, h1, q1_all h f1⟩
  | true =>
    cases f2 : pB b2 x.S2 x.n2 x.r2 with
    | false => exact ⟨_, h2, q2_all h f1 f2⟩
    | true =>
      cases f3 : pB b3 x.S3 x.n3 x.r3 with
      | false => exact ⟨_, h3, q3_all h f1 f2 f3⟩
      | true =>
        cases f4 : decide ((x.u1 : Int) ≤ 100) with
        | false => exact ⟨_, h4, q0_all h f1 f2 f3 (rep_all f4 5)⟩
        | true => exact ⟨_, h5 (!decide ((x.u2 : Int) ≤ 100)), q0_all h f1 f2 f3 (all_cons f4 (all_cons rfl all_nil))⟩
theorem an_runs (h : EvOK x) : Runs cfgN0 3 (evS x b1 b2 b3 true) (evH x b1 b2 b3 true) fun v _ => v = .bool (.lit true) := by
  refine runs_by cfgN0OK (anC x b1 b2 b3) (fun j => j ≤ 21 ∧ j ≤ x.n4) (fun j => 21 - j) (fun g nm hg => by cases hg) ?_ fun j hj J => ?_
  · refine to_startM (some (2, 3)) 20000 0 ⟨by omega, by omega⟩ (an_init x b1 b2 b3) (an_names x b1 b2 b3 0 0) (fun m hm p u hp hu => ?_) (by simp) all_nil
    obtain rfl : m = (0, 3, .int .i64 (.lit 0)) := by simpa using hm
    exact tmp_set (an_tmp x b1 b2 b3 0) hp hu (int_impS rfl)
  · obtain ⟨h1, h2⟩ := hj
    have h4 := h.h4
    have hin : ∀ q : List Prop, j < x.n4 → j < 21 → (∀ p ∈ q, p) → ∀ p ∈ anIn x j q, p := fun q a b h => all_cons (decide_eq_true (by omega)) (all_cons (decide_eq_true (by omega)) (all_cons ⟨by omega, by omega⟩ (all_cons (by omega) h)))
    by_cases hin1 : j < x.n4
    · by_cases h7 : j < 21
      · by_cases hs : (x.S4 j).size ≤ 60
        · exact to_turn (some (2, 3)) 20000 (j + 1) ⟨⟨by omega, by omega⟩, by omega⟩ (an_turn x b1 b2 b3 j J) (an_names x b1 b2 b3 j (j + 1)) (hin _ hin1 h7 (all_cons (decide_eq_false (by show ¬ ((x.S4 (0 + j * 1)).size : Int) > 60; rw [Nat.mul_one, Nat.zero_add]; omega)) (all_cons ⟨by omega, by omega⟩ all_nil)))
        · exact to_end none 20000 (an_fail x b1 b2 b3 j J) (hin _ hin1 h7 (all_cons (decide_eq_true (by show ((x.S4 (0 + j * 1)).size : Int) > 60; rw [Nat.mul_one, Nat.zero_add]; omega)) all_nil)) fun H _ => rfl
      · exact to_end none 20000 (an_many x b1 b2 b3 j J) (all_cons (decide_eq_true (by omega)) (all_cons (decide_eq_false (by omega)) (rep_all (decide_eq_false (by omega)) 4))) fun H _ => rfl
    · have hP : ∀ q : List Prop, (∀ p ∈ q, p) → ∀ p ∈ pP x j q, p := fun q hq => app_all (rep_all (decide_eq_false (by omega)) 3) hq
      by_cases h20 : x.n4 ≤ 20
      · have hX : ∀ q : List Prop, (∀ p ∈ q, p) → ∀ p ∈ pP x j (pX x q), p := fun q hq => hP _ (all_cons (decide_eq_true (by omega)) hq)
        obtain ⟨l, ⟨ds, hl⟩, hall⟩ := an_paths (x := x) (b1 := b1) (b2 := b2) (b3 := b3) h (Q := fun l => ∃ ds, ∀ z, anE x b1 b2 b3 j J ds z = (pP x j (pX x l), yes)) ⟨_, an_e1 x b1 b2 b3 j J⟩ ⟨_, an_e2 x b1 b2 b3 j J⟩ ⟨_, an_e3 x b1 b2 b3 j J⟩ ⟨_, an_e4 x b1 b2 b3 j J⟩ (fun b => by
          cases b with
          | true => exact ⟨_, an_e5 x b1 b2 b3 j J⟩
          | false => exact ⟨_, an_e6 x b1 b2 b3 j J⟩)
        exact to_end none 20000 hl (hX l hall) fun H _ => rfl
      · exact to_end none 20000 (an_e0 x b1 b2 b3 j J) (hP _ (rep_all (decide_eq_false (by omega)) 4)) fun H _ => rfl
theorem an_nil (h : EvOK x) : ∃ ds l, anN x b1 b2 b3 ds = (l, yesO) ∧ ∀ p ∈ l, p := by
  obtain ⟨l, ⟨ds, hl⟩, hall⟩ := an_paths (x := x) (b1 := b1) (b2 := b2) (b3 := b3) h (Q := fun l => ∃ ds, anN x b1 b2 b3 ds = (l, yesO)) ⟨_, an_n1 x b1 b2 b3⟩ ⟨_, an_n2 x b1 b2 b3⟩ ⟨_, an_n3 x b1 b2 b3⟩ ⟨_, an_n4 x b1 b2 b3⟩ (fun b => by
    cases b with
    | true => exact ⟨_, an_n5 x b1 b2 b3⟩
    | false => exact ⟨_, an_n6 x b1 b2 b3⟩)
  exact ⟨ds, l, hl, hall⟩
end

/- The start. -/
theorem start_gone' {w : World} {β : Val} {H : List SO} (h : HeapRel Tryz.prog (fun _ => False) w β H w) : ∃ β', HeapRel Tryz.prog (fun _ => False) w β' (H ++ [.gone]) w ∧ β.le β' := by
  have hsn := h.snoc (Go.Sim.Loc.mk 0 0 0) .gone trivial (fun ho => by cases ho)
  exact ⟨_, hsn.1, hsn.2⟩
/-- a slice of strings, at its name -/
theorem start_sl {w : World} {β : Val} {H : List SO} (h : HeapRel Tryz.prog (fun _ => False) w β H w) {a : Option Addr} {len cap : Nat} {S : Nat → ByteArray} (hr : StrRow w a len cap S) :
    ∃ β' b, HeapRel Tryz.prog (fun _ => False) w β' (H ++ [boolC b (rowSt S cap) .gone]) w ∧ β.le β' ∧ len ≤ cap ∧ (slB b H.length len cap).den β' = some (.slice a len cap) := by
  rcases hr with ⟨rfl, rfl, rfl⟩ | ⟨y, rfl, hs, hl, _, hx⟩
  · obtain ⟨β', h1, h2⟩ := start_gone' h
    exact ⟨β', false, h1, h2, Nat.le_refl _, rfl⟩
  · obtain ⟨β', h1, h2, h3⟩ := start_strs h hs hl hx
    exact ⟨β', true, h1, h2, hl, h3⟩
theorem none_law {w : World} {k t : Int} {a1 : Option Addr} {l1 m1 : Nat} {S1 : Nat → ByteArray} {s1 : ByteArray} {a2 : Option Addr} {l2 m2 : Nat} {S2 : Nat → ByteArray} {s2 : ByteArray} {a3 : Option Addr} {l3 m3 : Nat} {S3 : Nat → ByteArray} {s3 : ByteArray}
    {y1 : Option Addr} {n1 c1 : Nat} {y2 : Option Addr} {n2 c2 : Nat} {z0 z1 z2 z3 : Int} {a4 : Option Addr} {l4 m4 : Nat} {S4 : Nat → ByteArray} {i : Int}
    (h1 : StrRow w a1 l1 m1 S1) (h2 : StrRow w a2 l2 m2 S2) (h3 : StrRow w a3 l3 m3 S3) (h4 : StrRow w a4 l4 m4 S4) :
    Calls Tryz.prog 3 #[.agg #[.int .i64 k, .int .i64 t, .slice a1 l1 m1, .string s1, .slice a2 l2 m2, .string s2, .slice a3 l3 m3, .string s3, .slice y1 n1 c1, .slice y2 n2 c2, .int .i64 z0, .int .i64 z1, .int .i64 z2, .int .i64 z3, .slice a4 l4 m4], .int .i64 i] w
      fun e w' => e = .returned (.bool true) ∧ Below w.heap.size w w' := by
  obtain ⟨β1, b1, H1, e1, g1, d1⟩ := start_sl (HeapRel.start _ _ w) h1
  obtain ⟨β2, b2, H2, e2, g2, d2⟩ := start_sl H1 h2
  obtain ⟨β3, b3, H3, e3, g3, d3⟩ := start_sl H2 h3
  obtain ⟨β4, b4, H4, e4, g4, d4⟩ := start_sl H3 h4
  let x : EvA := ⟨k, t, l1, m1, l2, m2, l3, m3, l4, m4, m1, m2, m3, m4, S1, S2, S3, S4, s1, s2, s3, y1, y2, n1, c1, n2, c2, z0, z1, z2, z3, i⟩
  have hx : EvOK x := ⟨g1, g2, g3, g4⟩
  have d1' := SV.den_mono (fun n l h => e4 n l (e3 n l (e2 n l h))) _ d1
  have d2' := SV.den_mono (fun n l h => e4 n l (e3 n l h)) _ d2
  have d3' := SV.den_mono e4 _ d3
  have ha : SV.denL β4 (evS x b1 b2 b3 b4) = some [.agg #[.int .i64 k, .int .i64 t, .slice a1 l1 m1, .string s1, .slice a2 l2 m2, .string s2, .slice a3 l3 m3, .string s3, .slice y1 n1 c1, .slice y2 n2 c2, .int .i64 z0, .int .i64 z1, .int .i64 z2, .int .i64 z3, .slice a4 l4 m4], .int .i64 i] := by
    have e1 : (slB b1 0 x.n1 x.c1).den β4 = some (.slice a1 l1 m1) := d1'
    have e2 : (slB b2 1 x.n2 x.c2).den β4 = some (.slice a2 l2 m2) := d2'
    have e3 : (slB b3 2 x.n3 x.c3).den β4 = some (.slice a3 l3 m3) := d3'
    have e4 : (slB b4 3 x.n4 x.c4).den β4 = some (.slice a4 l4 m4) := d4
    simp only [evS, evC, SV.denL, SV.den, e1, e2, e3, e4, Option.map_some, Option.bind_some]
    rfl
  have hG : GlobRel (fun _ => Option.none) β4 := .none _
  have hH : HeapRel Tryz.prog (fun _ => False) w β4 (evH x b1 b2 b3 b4) w := H4
  cases b4 with
  | true => exact law_runs hH hG ha (an_runs hx)
  | false =>
    obtain ⟨ds, l, hl, hall⟩ := an_nil (x := x) (b1 := b1) (b2 := b2) (b3 := b3) hx
    exact law_by cfgN0OK 20000 hH hG ha ds hl hall
end Go.Proofs.YtfefmcemfbheoaaGreatDoor.Aes

