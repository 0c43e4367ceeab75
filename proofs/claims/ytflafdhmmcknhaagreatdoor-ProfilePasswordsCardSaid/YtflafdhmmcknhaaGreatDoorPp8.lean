/-
  Texts behind one another: the symbolic simulator and what it is told of the program.
-/
import Derived.Test.YtflafdhmmcknhaaGreatDoorPzHas1
import Derived.Test.YtflafdhmmcknhaaGreatDoorPzHas2

/-
  A hash in progress, the plain law: what it has taken, and what it comes to.
-/
namespace Go.Proofs.YtflafdhmmcknhaaGreatDoor.Aes
open Go.Sim
open Go.Proofs
variable {α : Type}

/-- bytes behind bytes -/
def catF (X : Nat → BitVec 8) (n : Nat) (Y : Nat → BitVec 8) : Nat → BitVec 8 := fun i => if i < n then X i else Y (i - n)
noncomputable def fillR (R : Nat → BitVec 8) (u : Nat) (X : Nat → BitVec 8) (m : Nat) : Nat → BitVec 8 := fun i => if u ≤ i ∧ i < u + m then X (i - u) else R i
noncomputable def restR (R X : Nat → BitVec 8) (o m : Nat) : Nat → BitVec 8 := fun i => if i < m then X (o + i) else R i
noncomputable def fullW (S : HSt) (X : Nat → BitVec 8) : List W32 := cmpW (eight S.ws) (words16 (fillR S.R (S.n % 64) X (64 - S.n % 64)) 0)
/-- what Write comes to -/
noncomputable def writeF (S : HSt) (X : Nat → BitVec 8) (m : Nat) : HSt :=
  if S.n % 64 = 0 then ⟨S.K, iterW S.ws X (m / 64), restR S.R X (64 * (m / 64)) (m % 64), S.n + m⟩
  else if S.n % 64 + m < 64 then ⟨S.K, S.ws, fillR S.R (S.n % 64) X m, S.n + m⟩
  else ⟨S.K, iterW (fullW S X) (fun i => X (64 - S.n % 64 + i)) ((m - (64 - S.n % 64)) / 64), restR (fillR S.R (S.n % 64) X (64 - S.n % 64)) (fun i => X (64 - S.n % 64 + i)) (64 * ((m - (64 - S.n % 64)) / 64)) ((m - (64 - S.n % 64)) % 64), S.n + m⟩
structure Rep (S : HSt) (Y : Nat → BitVec 8) (N : Nat) : Prop where
  n : S.n = N
  ws : eight S.ws = eight (iterW startV Y (N / 64))
  rest : ∀ i, i < N % 64 → S.R i = Y (64 * (N / 64) + i)
theorem iterW_eight {W V : List W32} (h : eight W = eight V) (Y : Nat → BitVec 8) : ∀ k, eight (iterW W Y k) = eight (iterW V Y k)
  | 0 => h
  | k + 1 => by rw [iterW_succ, iterW_succ, iterW_eight h Y k]
theorem iterW_add (W : List W32) (Y : Nat → BitVec 8) (q : Nat) : ∀ k, iterW W Y (q + k) = iterW (iterW W Y q) (fun i => Y (64 * q + i)) k
  | 0 => rfl
  | k + 1 => by
    rw [← Nat.add_assoc, iterW_succ, iterW_succ, iterW_add W Y q k]
    refine congrArg _ (words16_congr fun i _ => ?_)
    show Y _ = Y _
    rw [show 64 * (q + k) + i = 64 * q + (64 * k + i) from by omega]
theorem catF_lt {X Y : Nat → BitVec 8} {n i : Nat} (h : i < n) : catF X n Y i = X i := by unfold catF; rw [if_pos h]
theorem catF_ge {X Y : Nat → BitVec 8} {n i : Nat} (h : n ≤ i) : catF X n Y i = Y (i - n) := by unfold catF; rw [if_neg (by omega)]
theorem write_rep {S : HSt} {Y : Nat → BitVec 8} {N : Nat} (h : Rep S Y N) (X : Nat → BitVec 8) (m : Nat) : Rep (writeF S X m) (catF Y N X) (N + m) := by
  obtain ⟨h1, h2, h3⟩ := h
  unfold writeF
  rw [h1]
  by_cases c1 : N % 64 = 0
  · rw [if_pos c1]
    have e : (N + m) / 64 = N / 64 + m / 64 := by omega
    refine ⟨rfl, ?_, fun i hi => ?_⟩
    · show eight (iterW S.ws X (m / 64)) = _
      rw [e, iterW_add, iterW_eight (h2.trans (congrArg eight (iterW_congr (X := Y) (Y := catF Y N X) (N / 64) fun i hi => (catF_lt (by omega)).symm))) X]
      refine congrArg eight (iterW_congr _ fun i hi => ?_)
      rw [catF_ge (by omega), show 64 * (N / 64) + i - N = i from by omega]
    · show restR S.R X (64 * (m / 64)) (m % 64) i = _
      unfold restR
      rw [if_pos (by omega), catF_ge (by omega), e]
      exact congrArg X (by omega)
  · rw [if_neg c1]
    by_cases c2 : N % 64 + m < 64
    · rw [if_pos c2]
      have e : (N + m) / 64 = N / 64 := by omega
      refine ⟨rfl, ?_, fun i hi => ?_⟩
      · show eight S.ws = _
        rw [e, h2]
        exact congrArg eight (iterW_congr _ fun i hi => (catF_lt (by omega)).symm)
      · show fillR S.R (N % 64) X m i = _
        unfold fillR
        rw [e]
        by_cases c : i < N % 64
        · rw [if_neg (by omega), h3 i c, catF_lt (by omega)]
        · rw [if_pos (by omega), catF_ge (by omega)]
          exact congrArg X (by omega)
    · rw [if_neg c2]
      have e : (N + m) / 64 = N / 64 + 1 + (m - (64 - N % 64)) / 64 := by omega
      refine ⟨rfl, ?_, fun i hi => ?_⟩
      · show eight (iterW (fullW S X) (fun i => X (64 - N % 64 + i)) ((m - (64 - N % 64)) / 64)) = _
        rw [e, iterW_add]
        have hf : eight (fullW S X) = eight (iterW startV (catF Y N X) (N / 64 + 1)) := by
          have e1 : eight S.ws = eight (iterW startV (catF Y N X) (N / 64)) := h2.trans (congrArg eight (iterW_congr (X := Y) (Y := catF Y N X) _ fun i hi => (catF_lt (by omega)).symm))
          have e2 : words16 (fillR S.R (N % 64) X (64 - N % 64)) 0 = words16 (catF Y N X) (64 * (N / 64)) := by
            refine words16_congr fun i hi => ?_
            unfold fillR
            rw [Nat.zero_add]
            by_cases c : i < N % 64
            · rw [if_neg (by omega), h3 i c, catF_lt (by omega)]
            · rw [if_pos (by omega), catF_ge (by omega)]
              exact congrArg X (by omega)
          unfold fullW
          rw [h1, e1, e2, iterW_succ]
        rw [iterW_eight hf]
        refine congrArg eight (iterW_congr _ fun i hi => ?_)
        rw [catF_ge (by omega)]
        exact congrArg X (by omega)
      · dsimp only
        unfold restR
        rw [if_pos (by omega), catF_ge (by omega), e]
        exact congrArg X (by omega)
/- The end. -/
noncomputable def hend1 (S : HSt) : List W32 := cmpW (eight S.ws) (words16 (byteAt (endL 64 S.R (S.n % 64) S.n)) 0)
/-- the rest, az it is seen in its block -/
noncomputable def rstF (S : HSt) : Nat → BitVec 8 := fun i => byteL (mcells S) (136 + i)
set_option maxRecDepth 100000 in
theorem rst_all (S : HSt) : mapN (fun i => rstF S i) (fromN 64 0) = mapN (fun i => S.R i) (fromN 64 0) := by kernel_rfl
theorem rstF_eq (S : HSt) {i : Nat} (h : i < 64) : rstF S i = S.R i := by
  have := rst_all S
  rw [mapN_eq, mapN_eq, List.map_inj_left] at this
  exact this i (by rw [fromN_eq, List.mem_range'_1]; omega)
noncomputable def hend2 (S : HSt) : List W32 := cmpW (eight (cmpW (eight S.ws) (words16 (byteAt (endL 128 (rstF S) (S.n % 64) S.n)) 0))) (words16 (byteAt (endL 128 (rstF S) (S.n % 64) S.n)) 64)
theorem hend_key {S : HSt} {R : Nat → BitVec 8} {Y : Nat → BitVec 8} {N size : Nat} (hR : ∀ i, i < 64 → R i = S.R i) (h : Rep S Y N) (hs : N % 64 + 9 ≤ size) (hp : lenP N = 64 * (N / 64) + size) {i : Nat} (hi : i < size) :
    byteAt (endL size R (S.n % 64) S.n) i = padF Y N N (64 * (N / 64) + i) := by
  obtain ⟨h1, h2, h3⟩ := h
  rw [h1, endL_get hs hi]
  unfold padF
  rw [hp]
  by_cases c1 : i < N % 64
  · rw [if_pos c1, if_pos (by omega), hR i (by omega), h3 i c1]
  · rw [if_neg c1, if_neg (show ¬ 64 * (N / 64) + i < N by omega)]
    by_cases c2 : i = N % 64
    · rw [if_pos c2, if_pos (by omega)]
    · rw [if_neg c2, if_neg (show ¬ 64 * (N / 64) + i = N by omega)]
      by_cases c3 : size ≤ i + 8
      · rw [if_pos c3, if_pos (by omega), show 64 * (N / 64) + size - 1 - (64 * (N / 64) + i) = size - 1 - i from by omega]
      · rw [if_neg c3, if_neg (by omega)]
theorem iter_pad {Y : Nat → BitVec 8} {N : Nat} : iterW startV (padF Y N N) (N / 64) = iterW startV Y (N / 64) :=
  iterW_congr _ fun i hi => by unfold padF; rw [if_pos (by omega)]
theorem hend1_eq {S : HSt} {Y : Nat → BitVec 8} {N : Nat} (h : Rep S Y N) (hl : N % 64 + 9 ≤ 64) : hashB (hend1 S) = shaF Y N := by
  have hk : (N + 72) / 64 = N / 64 + 1 := by omega
  unfold shaF hend1
  rw [hk, iterW_succ, iter_pad, h.ws]
  refine congrArg hashB (congrArg _ (words16_congr fun i hi => ?_))
  rw [Nat.zero_add]
  exact hend_key (fun _ _ => rfl) h hl (by unfold lenP; omega) hi
theorem hend2_eq {S : HSt} {Y : Nat → BitVec 8} {N : Nat} (h : Rep S Y N) (hl : 64 < N % 64 + 9) : hashB (hend2 S) = shaF Y N := by
  have hk : (N + 72) / 64 = N / 64 + 2 := by omega
  unfold shaF hend2
  rw [hk, iterW_succ, iterW_succ, iter_pad, h.ws]
  refine congrArg hashB (cmp_congr (congrArg _ (words16_congr fun i hi => ?_)) (words16_congr fun i hi => ?_))
  · rw [Nat.zero_add]
    exact hend_key (fun _ hi => rstF_eq S hi) h (by omega) (by unfold lenP; omega) (by omega)
  · rw [hend_key (fun _ hi => rstF_eq S hi) h (by omega) (by unfold lenP; omega) (by omega), show 64 * (N / 64) + (64 + i) = 64 * (N / 64 + 1) + i from by omega]
/- A keyed hash. -/
noncomputable def keyP (F : (Nat → BitVec 8) → Nat → List (BitVec 8)) (K : Nat → BitVec 8) (n : Nat) (i : Nat) : BitVec 8 := if n ≤ 64 then (if i < n then K i else 0#8) else if i < 32 then byteAt (F K n) i else 0#8
noncomputable def xorP (F : (Nat → BitVec 8) → Nat → List (BitVec 8)) (K : Nat → BitVec 8) (n : Nat) (b : BitVec 8) (i : Nat) : BitVec 8 := keyP F K n i ^^^ b
noncomputable def macB (F : (Nat → BitVec 8) → Nat → List (BitVec 8)) (K : Nat → BitVec 8) (n : Nat) (M : Nat → BitVec 8) (m : Nat) : List (BitVec 8) :=
  F (catF (xorP F K n 0x5c#8) 64 (byteAt (F (catF (xorP F K n 0x36#8) 64 M) (64 + m)))) 96
end Go.Proofs.YtflafdhmmcknhaaGreatDoor.Aes


/-
  A keyed hash in progress: Write, its loop.
-/
namespace Go.Proofs.YtflafdhmmcknhaaGreatDoor.Aes
open Go.Sim
open Go.Proofs
variable {α : Type}

set_option maxRecDepth 1000000

noncomputable def cfgW : Cfg := cfgG globP (sumsOf [(79, addHS)])
theorem cfgWOK : CfgOK cfgW := sumsG_ok (allS addHOK (by simp))
noncomputable def mwArgs (o n m : Nat) : List SV := [.ptr ⟨4, .lit 0⟩, tailA 5 o n m]
noncomputable def macE (S : HSt) : SO := .own (.lst (mcells S)) true 101
noncomputable def mwEnts (S : HSt) (X : Nat → BitVec 8) (N : Nat) : List SO := shaHP [macE S, rowF X N]
noncomputable def mwT (st : Option (Nat × Nat)) (S : HSt) (X : Nat → BitVec 8) (N o n m : Nat) : Tree := callSim (cfgW.at st) 4000 39 (mwArgs o n m) (mwEnts S X N)
noncomputable def mwS0 (S : HSt) (X : Nat → BitVec 8) (N o n m : Nat) : SS := stopOf (mwT (some (2, 3)) S X N o n m) [false, false]
structure MwA where
  p : Nat
  s : SN
  len : Nat
  cap : Nat
  ws : List W32
  R : Nat → BitVec 8
  K : Nat → BitVec 8
noncomputable def mwC (S : HSt) (X : Nat → BitVec 8) (N o n m : Nat) (A : MwA) : Cut :=
  ⟨bareFs (mwS0 S X N o n m).frames [[(0, .ptr ⟨4, .lit 128⟩), (1, .tail ⟨5, .sym A.p⟩ A.s (.sym A.len) (.sym A.cap))], []],
   [.ent startR, .ent constR, .ent anyR, .ent anyR, .ent (macE ⟨A.K, A.ws, A.R, S.n + n⟩), .ent (rowF X N)]⟩
noncomputable def mwNs : List Nat := fromN 6 0
/-- bytes laid into the rest -/
noncomputable def fillC (o n : Nat) (Y R : Nat → BitVec 8) : Nat → BitVec 8 := fun j => if o ≤ 136 + j ∧ 136 + j < o + n then Y (136 + j - o) else R j
noncomputable def apM (o n : Nat) : Prop := o + n ≤ 202 ∧ apartP o n [128, 129, 130, 131, 132, 133, 134, 135, 200, 201]
noncomputable def mwR1 (S : HSt) (X : Nat → BitVec 8) (o n : Nat) : Nat → BitVec 8 := fillC (136 + S.n % 64 * 1) n (fun i => X (o + 0 + i)) S.R
noncomputable def kC (o n : Nat) (Y K : Nat → BitVec 8) : Nat → BitVec 8 := fun i => if o ≤ i ∧ i < o + n then Y (i - o) else K i
noncomputable def mwK1 (S : HSt) (X : Nat → BitVec 8) (o n : Nat) : Nat → BitVec 8 := kC (136 + S.n % 64 * 1) n (fun i => X (o + 0 + i)) S.K
noncomputable def mw0 (S : HSt) (n : Nat) (r : List Prop) : List Prop := (((S.n : Int) == 0) = false) :: inI64 ((S.n : Int) + n) :: r
noncomputable def mwB (S : HSt) (X : Nat → BitVec 8) (N o n k : Nat) (b : Bool) (r : List Prop) : List Prop :=
  mw0 S n ((decide (((S.n % 64 : Nat) : Int) > 0) = true) :: (0 ≤ ((S.n % 64 : Nat) : Int) ∧ ((S.n % 64 : Nat) : Int) ≤ 64) :: (decide (64 = S.n % 64) = false) :: (decide (n ≤ 64 - S.n % 64) = b) :: (o + 0 + k ≤ N ∧ IsB (byteF X)) :: apM (136 + S.n % 64 * 1) k :: r)
section
variable (S : HSt) (X : Nat → BitVec 8) (N o n m : Nat) (A : MwA) (J : Junk) (z : Nat → Nat → Nat)
theorem mw_init0 : outL [] (mwC S X N o n m ⟨o, .lit 0, n, m, S.ws, S.R, S.K⟩) mwNs (mwT (some (2, 3)) S X N o n m) [false, false] z =
    (mw0 S n [decide (((S.n % 64 : Nat) : Int) > 0) = false], some (.inr (seenC mwNs 6 (mwC S X N o n m ⟨o, .lit 0, n, m, S.ws, S.R, S.K⟩)))) := by kernel_rfl
noncomputable def mwQ (k : Nat) (u : Nat) (b : Bool) (r : List Prop) : List Prop := inI64 (((u : Nat) : Int) + k) :: (decide (((u : Nat) : Int) + k < 64) = b) :: r
noncomputable def mwS (k : Nat) : List Prop := [0 ≤ ((S.n + n : Nat) : Int), 0 < n, 0 ≤ (k : Int) ∧ (k : Int) ≤ (n : Int)]
noncomputable def mwW1 (k : Nat) : List W32 := cmpW (eight S.ws) (words16 (mwR1 S X o k) 0)
noncomputable def mwA1 (k : Nat) : MwA := ⟨o + 0, .sym (k * 1), n - k, m - k, mwW1 S X o k, mwR1 S X o k, mwK1 S X o k⟩
theorem mw_init1 : outL [] (mwC S X N o n m (mwA1 S X o n m n)) mwNs (mwT (some (2, 3)) S X N o n m) [false, true, false, true, false] z =
    (mwB S X N o n n true (mwQ n (S.n % 64) false (mwS S n n)), some (.inr (seenC mwNs 6 (mwC S X N o n m (mwA1 S X o n m n))))) := by kernel_rfl
theorem mw_init2 : outL [] (mwC S X N o n m (mwA1 S X o n m (64 - S.n % 64))) mwNs (mwT (some (2, 3)) S X N o n m) [false, true, false, false, false] z =
    (mwB S X N o n (64 - S.n % 64) false (mwQ (64 - S.n % 64) (S.n % 64) false (mwS S n (64 - S.n % 64))), some (.inr (seenC mwNs 6 (mwC S X N o n m (mwA1 S X o n m (64 - S.n % 64)))))) := by kernel_rfl
theorem mw_early : outL [4] (mwC S X N o n m A) mwNs (mwT none S X N o n m) [false, true, false, true, true] z =
    (mwB S X N o n n true (mwQ n (S.n % 64) true []), some (.inl (.int .i64 (.lit 0), [some (macE ⟨mwK1 S X o n, S.ws, mwR1 S X o n, S.n + n⟩)]))) := by kernel_rfl
noncomputable def mwTurn : List Prop := [decide ((A.len : Int) ≥ 64) = true, 0 < A.len, 64 ≤ A.cap, 0 ≤ ((S.n + n : Nat) : Int), IsB (byteF X), A.p + A.s.den + 0 + 64 ≤ N, 0 < A.len, 64 ≤ A.len]
noncomputable def mwNext : MwA := ⟨A.p + A.s.den, .lit 64, A.len - 64, A.cap - 64, cmpW (eight A.ws) (words16 X (A.p + A.s.den + 0)), A.R, A.K⟩
theorem mw_turn : outL [] (mwC S X N o n m A) mwNs (sim1 (cfgW.at (some (2, 3))) 4000 ((mwC S X N o n m A).fill J)) [true] z =
    (mwTurn S X N n A, some (.inr (seenC mwNs 6 (mwC S X N o n m (mwNext X A))))) := by kernel_rfl
theorem mw_end : outL [4] (mwC S X N o n m A) mwNs (sim1 (cfgW.at none) 4000 ((mwC S X N o n m A).fill J)) [false, true] z =
    ([decide ((A.len : Int) ≥ 64) = false, decide (A.len ≤ 64) = true, (A.p + A.s.den + A.len ≤ N ∧ IsB (byteF X)), apM 136 A.len], some (.inl (.int .i64 (.lit 0), [some (macE ⟨A.K, A.ws, fillC 136 A.len (fun i => X (A.p + A.s.den + i)) A.R, S.n + n⟩)]))) := by kernel_rfl
theorem mw_names (B : MwA) : boolC (namesOK 6 mwNs (mwC S X N o n m A) (mwC S X N o n m B)) (allN noLoopE (mwC S X N o n m B).heap) false = true := by kernel_rfl
end
end Go.Proofs.YtflafdhmmcknhaaGreatDoor.Aes


/-
  A keyed hash in progress: the summary of Write.
-/
namespace Go.Proofs.YtflafdhmmcknhaaGreatDoor.Aes
open Go.Sim
open Go.Proofs
variable {α : Type}

set_option maxRecDepth 1000000
theorem tabB_congr {X Y : Nat → BitVec 8} {n : Nat} (h : ∀ i, i < n → X i = Y i) : tabB X n = tabB Y n := by
  unfold tabB
  rw [mapN_eq, mapN_eq]
  apply List.map_congr_left
  intro i hi
  rw [fromN_eq, List.mem_range'] at hi
  obtain ⟨j, hj, rfl⟩ := hi
  exact h _ (by omega)
theorem mcells_congr {S T : HSt} (hK : ∀ i, i < 128 → S.K i = T.K i) (hw : eight S.ws = eight T.ws) (hR : ∀ i, i < 64 → S.R i = T.R i) (hn : S.n = T.n) : mcells S = mcells T := by
  unfold mcells hcells
  rw [tabB_congr hK, hw, tabB_congr hR, hn]
theorem macE_congr {S T : HSt} (hK : ∀ i, i < 128 → S.K i = T.K i) (hw : eight S.ws = eight T.ws) (hR : ∀ i, i < 64 → S.R i = T.R i) (hn : S.n = T.n) : macE S = macE T := by
  unfold macE
  rw [mcells_congr hK hw hR hn]
theorem apM_ok {o n : Nat} (h : 136 ≤ o) (h2 : o + n ≤ 200) : apM o n :=
  ⟨by omega, .inl (by omega), .inl (by omega), .inl (by omega), .inl (by omega), .inl (by omega), .inl (by omega), .inl (by omega), .inl (by omega), .inr (by omega), .inr (by omega), trivial⟩
structure MwQ (S : HSt) (X : Nat → BitVec 8) (o n m c : Nat) (W1 : List W32) (R1 : Nat → BitVec 8) (A : MwA) (k : Nat) : Prop where
  le : 64 * k ≤ n - c
  at_ : A.p + A.s.den = o + c + 64 * k
  len : A.len = n - c - 64 * k
  cap : A.cap = m - c - 64 * k
  ws : A.ws = iterW W1 (fun i => X (o + c + i)) k
  R : A.R = R1
  K : ∀ i, i < 128 → A.K i = S.K i
noncomputable def mwF (S : HSt) (X : Nat → BitVec 8) (o n c : Nat) (W1 : List W32) (R1 : Nat → BitVec 8) : HSt := ⟨S.K, iterW W1 (fun i => X (o + c + i)) ((n - c) / 64), restR R1 (fun i => X (o + c + i)) (64 * ((n - c) / 64)) ((n - c) % 64), S.n + n⟩
theorem mw_fin {S : HSt} {X : Nat → BitVec 8} {o n m c : Nat} {W1 : List W32} {R1 : Nat → BitVec 8} {A : MwA} {k : Nat} (h : MwQ S X o n m c W1 R1 A k) (hl : A.len < 64) :
    macE ⟨A.K, A.ws, fillC 136 A.len (fun i => X (A.p + A.s.den + i)) A.R, S.n + n⟩ = macE (mwF S X o n c W1 R1) := by
  obtain ⟨h1, h2, h3, h4, h5, h6, h7⟩ := h
  have hk : (n - c) / 64 = k := by omega
  refine macE_congr h7 ?_ (fun i hi => ?_) rfl
  · show eight A.ws = eight (iterW W1 _ ((n - c) / 64))
    rw [h5, hk]
  · unfold mwF
    dsimp only
    unfold fillC restR
    rw [h6, hk, h2]
    by_cases c1 : i < A.len
    · rw [if_pos (by omega), if_pos (by omega)]
      exact congrArg X (by omega)
    · rw [if_neg (by omega), if_neg (by omega)]
/-- the loop: from a state that is behind the first bytes -/
theorem mw_loop {S : HSt} {X : Nat → BitVec 8} {N o n m c : Nat} {W1 : List W32} {R1 : Nat → BitVec 8} {A : MwA} {k : Nat} (hN : o + n ≤ N) (hm : n ≤ m) (hc : c ≤ n) (hQ : MwQ S X o n m c W1 R1 A k) (J : Junk) :
    TurnsTo cfgW 6 (mwC S X N o n m) (fun a' => (∃ k, MwQ S X o n m c W1 R1 a' k) ∧ a'.len < A.len) (fun v H => v = .int .i64 (.lit 0) ∧ H[4]? = some (macE (mwF S X o n c W1 R1))) ((mwC S X N o n m A).fill J) := by
  obtain ⟨h1, h2, h3, h4, h5, h6, h7⟩ := id hQ
  by_cases c1 : 64 ≤ A.len
  · refine to_turn (some (2, 3)) 4000 (mwNext X A) ⟨⟨k + 1, by omega, by show A.p + A.s.den + 64 = _; omega, by show A.len - 64 = _; omega, by show A.cap - 64 = _; omega, ?_, h6, h7⟩, by show A.len - 64 < A.len; omega⟩ (mw_turn S X N o n m A J) (mw_names S X N o n m _ _) ?_
    · rw [iterW_succ]
      refine cmp_congr h5 (words16_congr fun i hi => ?_)
      exact congrArg X (by omega)
    · exact all_cons (decide_eq_true (by omega)) (all_cons (by omega) (all_cons (by omega) (all_cons (by omega) (all_cons (byteF_isB X) (all_cons (by omega) (all_cons (by omega) (all_cons (by omega) all_nil)))))))
  · refine to_end none 4000 (mw_end S X N o n m A J) ?_ fun H hH => ⟨rfl, ?_⟩
    · exact all_cons (decide_eq_false (by omega)) (all_cons (decide_eq_true (by omega)) (all_cons ⟨by omega, byteF_isB X⟩ (all_cons (apM_ok (by omega) (by omega)) all_nil)))
    · rw [← mw_fin hQ (by omega)]
      exact (List.cons.inj hH).1
theorem mw0_all {S : HSt} {n : Nat} {r : List Prop} (h0 : 0 < S.n) (hb : S.n + n ≤ 1152921504606846976) (hr : ∀ p ∈ r, p) : ∀ p ∈ mw0 S n r, p :=
  all_cons (by rw [beq_eq_false_iff_ne]; omega) (all_cons ⟨by omega, by omega⟩ hr)
theorem mwB_all {S : HSt} {X : Nat → BitVec 8} {N o n k : Nat} {b : Bool} {r : List Prop} (h0 : 0 < S.n) (hb : S.n + n ≤ 1152921504606846976) (hu : S.n % 64 ≠ 0) (hbb : decide (n ≤ 64 - S.n % 64) = b) (hk : o + k ≤ N) (hk2 : S.n % 64 + k ≤ 64) (hr : ∀ p ∈ r, p) : ∀ p ∈ mwB S X N o n k b r, p :=
  mw0_all h0 hb (all_cons (decide_eq_true (by omega)) (all_cons ⟨by omega, by omega⟩ (all_cons (decide_eq_false (by omega)) (all_cons hbb (all_cons ⟨by omega, byteF_isB X⟩ (all_cons (apM_ok (by omega) (by omega)) hr))))))
theorem mwR1_eq {S : HSt} {X : Nat → BitVec 8} {o k : Nat} (j : Nat) : mwR1 S X o k j = fillR S.R (S.n % 64) (fun i => X (o + i)) k j := by
  unfold mwR1 fillC fillR
  by_cases c : S.n % 64 ≤ j ∧ j < S.n % 64 + k
  · rw [if_pos (by omega), if_pos c]
    exact congrArg X (by omega)
  · rw [if_neg (by omega), if_neg c]
theorem mwK1_eq {S : HSt} {X : Nat → BitVec 8} {o k : Nat} (j : Nat) (hj : j < 128) : mwK1 S X o k j = S.K j := by
  unfold mwK1 kC
  rw [if_neg (by omega)]
theorem mw_runs {S : HSt} {X : Nat → BitVec 8} {N o n m : Nat} (hN : o + n ≤ N) (hm : n ≤ m) (h0 : 0 < S.n) (hb : S.n + n ≤ 1152921504606846976) :
    Runs cfgW 39 (mwArgs o n m) (mwEnts S X N) fun v H => v = .int .i64 (.lit 0) ∧ H[4]? = some (macE (writeF S (fun i => X (o + i)) n)) := by
  have hglob : ∀ g nm, cfgW.glob g = some nm → nm < (mwEnts S X N).length := fun g nm hg => Nat.lt_of_lt_of_le (globP_lt hg) (by show 2 ≤ 6; omega)
  by_cases hu : S.n % 64 = 0
  · have e : macE (writeF S (fun i => X (o + i)) n) = macE (mwF S X o n 0 S.ws S.R) := by
      unfold writeF
      rw [if_pos hu]
      rfl
    rw [e]
    refine runs_by cfgWOK (mwC S X N o n m) (fun A => ∃ k, MwQ S X o n m 0 S.ws S.R A k) (fun A => A.len) hglob ?_ fun A ⟨k, hQ⟩ J => mw_loop hN hm (Nat.zero_le _) hQ J
    exact to_start (some (2, 3)) 4000 ⟨o, .lit 0, n, m, S.ws, S.R, S.K⟩ ⟨0, Nat.zero_le _, rfl, rfl, rfl, rfl, rfl, fun _ _ => rfl⟩ (mw_init0 S X N o n m) (mw_names S X N o n m _ _) (mw0_all h0 hb (all_cons (decide_eq_false (by omega)) all_nil))
  · by_cases hs : S.n % 64 + n < 64
    · have e : macE ⟨mwK1 S X o n, S.ws, mwR1 S X o n, S.n + n⟩ = macE (writeF S (fun i => X (o + i)) n) := by
        unfold writeF
        rw [if_neg hu, if_pos hs]
        exact macE_congr (fun i hi => mwK1_eq i hi) rfl (fun i _ => mwR1_eq i) rfl
      rw [← e]
      refine runs_by cfgWOK (mwC S X N o n m) (fun _ => False) (fun A => A.len) hglob ?_ fun A h J => h.elim
      refine start_end none 4000 (mw_early S X N o n m ⟨0, .lit 0, 0, 0, [], S.R, S.K⟩) ?_ fun H hH => ⟨rfl, (List.cons.inj hH).1⟩
      exact mwB_all h0 hb hu (decide_eq_true (by omega)) hN (by omega) (all_cons ⟨by omega, by omega⟩ (all_cons (decide_eq_true (by omega)) all_nil))
    · have hc : 64 - S.n % 64 ≤ n := by omega
      have e : macE (writeF S (fun i => X (o + i)) n) = macE (mwF S X o n (64 - S.n % 64) (mwW1 S X o (64 - S.n % 64)) (mwR1 S X o (64 - S.n % 64))) := by
        have ew : mwW1 S X o (64 - S.n % 64) = fullW S (fun i => X (o + i)) := by
          unfold mwW1 fullW
          rw [words16_congr (X := mwR1 S X o (64 - S.n % 64)) (b := 0) fun i _ => mwR1_eq (0 + i)]
        unfold writeF mwF
        rw [if_neg hu, if_neg hs, ew]
        refine macE_congr (fun _ _ => rfl) (congrArg eight (iterW_congr _ fun i _ => ?_)) (fun i _ => ?_) rfl
        · exact congrArg X (by omega)
        · dsimp only
          unfold restR
          by_cases c1 : i < (n - (64 - S.n % 64)) % 64
          · rw [if_pos c1, if_pos c1]
            exact congrArg X (by omega)
          · rw [if_neg c1, if_neg c1, mwR1_eq]
      rw [e]
      refine runs_by cfgWOK (mwC S X N o n m) (fun A => ∃ k, MwQ S X o n m (64 - S.n % 64) (mwW1 S X o (64 - S.n % 64)) (mwR1 S X o (64 - S.n % 64)) A k) (fun A => A.len) hglob ?_ fun A ⟨k, hQ⟩ J => mw_loop hN hm hc hQ J
      by_cases he : n ≤ 64 - S.n % 64
      · have hen : n = 64 - S.n % 64 := by omega
        refine to_start (some (2, 3)) 4000 (mwA1 S X o n m n) ⟨0, Nat.zero_le _, ?_, ?_, ?_, ?_, ?_, fun i hi => mwK1_eq i hi⟩ (mw_init1 S X N o n m) (mw_names S X N o n m _ _) ?_
        · show o + 0 + n * 1 = _; omega
        · show n - n = _; omega
        · show m - n = _; omega
        · show mwW1 S X o n = _; rw [← hen]; rfl
        · show mwR1 S X o n = _; rw [← hen]
        · exact mwB_all h0 hb hu (decide_eq_true he) hN (by omega) (all_cons ⟨by omega, by omega⟩ (all_cons (decide_eq_false (by omega)) (all_cons (by omega) (all_cons (by omega) (all_cons ⟨by omega, by omega⟩ all_nil)))))
      · refine to_start (some (2, 3)) 4000 (mwA1 S X o n m (64 - S.n % 64)) ⟨0, Nat.zero_le _, ?_, ?_, ?_, rfl, rfl, fun i hi => mwK1_eq i hi⟩ (mw_init2 S X N o n m) (mw_names S X N o n m _ _) ?_
        · show o + 0 + (64 - S.n % 64) * 1 = _; omega
        · show n - (64 - S.n % 64) = _; omega
        · show m - (64 - S.n % 64) = _; omega
        · exact mwB_all h0 hb hu (decide_eq_false he) (by omega) (by omega) (all_cons ⟨by omega, by omega⟩ (all_cons (decide_eq_false (by omega)) (all_cons (by omega) (all_cons (by omega) (all_cons ⟨by omega, by omega⟩ all_nil)))))
end Go.Proofs.YtflafdhmmcknhaaGreatDoor.Aes


/-
  A keyed hash in progress: its sum.
-/
namespace Go.Proofs.YtflafdhmmcknhaaGreatDoor.Aes
open Go.Sim
open Go.Proofs
variable {α : Type}

set_option maxRecDepth 1000000
noncomputable def hsT (S : HSt) : Tree := callSim cfgW 8000 63 [.ptr ⟨4, .lit 128⟩] (shaHP [.row (.lst (mcells S))])
noncomputable def fiT (S : HSt) (Y : Nat → BitVec 8) : Tree := callSim cfgW 8000 62 [.ptr ⟨4, .lit 0⟩, .agg (bx (tabB Y 32))] (shaHP [.row (.lst (mcells S))])
noncomputable def hsC (S : HSt) (b : Bool) (sz : Nat) (r : List Prop) : List Prop :=
  (((S.n : Int) == 0) = false) :: (0 ≤ ((S.n % 64 : Nat) : Int) ∧ ((S.n % 64 : Nat) : Int) ≤ 64) :: (0 ≤ ((S.n % 64 : Nat) : Int) ∧ ((S.n % 64 : Nat) : Int) ≤ ((S.n % 64 : Nat) : Int)) :: (decide (((S.n % 64 : Nat) : Int) ≥ 64) = false) :: inI64 (((S.n % 64 : Nat) : Int) + 9) :: (decide (((S.n % 64 : Nat) : Int) + 9 > 64) = b) :: apM 136 (S.n % 64) :: (S.n % 64 ≤ sz) :: (0 + S.n % 64 ≤ sz) :: (0 ≤ ((S.n % 64 : Nat) : Int) ∧ ((S.n % 64 : Nat) : Int) < (sz : Int)) :: (0 + (((S.n % 64 : Nat) : Int)).toNat * 1 + 1 ≤ sz) :: r
noncomputable def finW (K Y : Nat → BitVec 8) : List W32 := cmpW (eight (cmpW (eight startV) (words16 K 0))) (words16 (byteAt (endL 64 Y 32 96)) 0)
section
variable (S : HSt) (Y : Nat → BitVec 8)
theorem hs_run1 : outO [] (hsT S) [false, false, false] = (hsC S false 64 [0 + 64 ≤ 64], some (.agg (bx (hashB (hend1 S))), [])) := by kernel_rfl
theorem hs_run2 : outO [] (hsT S) [false, false, true] = (hsC S true 128 [0 + 64 ≤ 128, 64 + 64 ≤ 128], some (.agg (bx (hashB (hend2 S))), [])) := by kernel_rfl
noncomputable def fiC : List Prop := [(0 : Int) ≤ 64, 0 ≤ (S.n : Int), false = false, inI64 96, false = false, false = false, (0 : Int) ≤ 32 ∧ (32 : Int) ≤ 64, (0 : Int) ≤ 32 ∧ (32 : Int) ≤ 32, false = false, inI64 41, false = false, (40 ≤ 73 ∧ apartP 8 32 [0, 1, 2, 3, 4, 5, 6, 7, 72]), 32 ≤ 64, 32 ≤ 64, (0 : Int) ≤ 32 ∧ (32 : Int) < 64, 33 ≤ 64, 64 ≤ 64]
theorem fi_run : outO [] (fiT S Y) [false, false, false, false, false] = (fiC S, some (.agg (bx (hashB (finW S.K Y))), [])) := by kernel_rfl
end
end Go.Proofs.YtflafdhmmcknhaaGreatDoor.Aes

