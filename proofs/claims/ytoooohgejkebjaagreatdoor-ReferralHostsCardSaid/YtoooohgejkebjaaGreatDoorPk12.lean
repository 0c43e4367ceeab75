/-
  Texts behind one another: the symbolic simulator and what it is told of the program.
-/
import Derived.Test.YtoooohgejkebjaaGreatDoorZHhl2
import Derived.Test.YtoooohgejkebjaaGreatDoorPk11
import Derived.Test.YtoooohgejkebjaaGreatDoorZHhl3
import Derived.Test.YtoooohgejkebjaaGreatDoorPk7
import Derived.Test.YtoooohgejkebjaaGreatDoorPk6
import Derived.Deep.Slices

/-
  ReferralHosts: the law's runs, the ways without a map; how it begins.
-/
namespace Go.Proofs.YtoooohgejkebjaaGreatDoor.Aes
open Go.Sim
open Go.Proofs
variable {α : Type}

set_option maxRecDepth 1000000
section
variable (V : Nat → Value) (N n k : Nat) (many : Int) (J : Junk) (z : Nat → Nat → Nat) (re : Bool) (es : List MapEntry) (c : Nat) (W : Nat → Value) (m i : Nat)
theorem hl_An : mapN (fun o => mapN (fun w => mapN (fun a => hlD V N n k many J z es c W m i true true o (app (dW w) (dA a)) nm6) (fromN 2 0)) (fromN 3 0)) (fromN 15 0) =
  mapN (fun o => mapN (fun w => mapN (fun a => (hlX V N n i z o w (cAd true W m (aFr V i) (aTo V i) (app (cA true W m es (aFr V i) (aTo V i) a) (i1 i))), seN nm6 7 (hlC V N n k many true true es c W m (i + 1)))) (fromN 2 0)) (fromN 3 0)) (fromN 15 0) := by kernel_rfl
theorem hl_Rn : mapN (fun o => mapN (fun a => hlD V N n k many J z es c W m i true true o (app (dW 3) (ntC a [false, false] fun _ => [true, false, true])) nm6) (fromN 2 0)) (fromN 15 0) =
  mapN (fun o => mapN (fun a => (hlX V N n i z o 3 (cRm true W m (aFr V i) (app (ntC a [sfQ (aFr V i) false, sfQ (aFr V i) false] fun _ => [sfQ (aFr V i) true, hasP true W m (aFr V i) false, sfQ (aFr V i) true]) (i1 i))), seN nm6 7 (hlC V N n k many true true es c W m (i + 1)))) (fromN 2 0)) (fromN 15 0) := by kernel_rfl
noncomputable def nmc : List Nat := [0, 1, 2, 7, 4, 5]
theorem hl_Cn : mapN (fun o => mapN (fun u => hlD V N n k many J z es c W m i true true o (app (dW 4) (dVn u)) nmc) (fromN 3 0)) (fromN 15 0) =
  mapN (fun o => mapN (fun u => (hlX V N n i z o 4 (app (cVn (aFr V i) u) (i1 i)), seN nmc 9 (hlC V N n k many true true es c W m (i + 1)))) (fromN 3 0)) (fromN 15 0) := by kernel_rfl
theorem hl_Ln : mapN (fun o => hlD V N n k many J z es c W m i true true o (app (dW 5) [false, false]) nm6) (fromN 15 0) =
  mapN (fun o => (hlX V N n i z o 5 (cL true W m [] (aFr V i) false (i1 i)), seN nm6 7 (hlC V N n k many true true es c W m (i + 1)))) (fromN 15 0) := by kernel_rfl
end
end Go.Proofs.YtoooohgejkebjaaGreatDoor.Aes


/-
  ReferralHosts: the law's runs: how it begins, no rules, the first rule, names.
-/
namespace Go.Proofs.YtoooohgejkebjaaGreatDoor.Aes
open Go.Sim
open Go.Proofs
variable {α : Type}

set_option maxRecDepth 1000000
section
variable (V : Nat → Value) (N n k : Nat) (many : Int) (J : Junk) (z : Nat → Nat → Nat) (re : Bool) (es : List MapEntry) (c : Nat) (W U : Nat → Value) (m i j : Nat) (es' : List MapEntry) (c' : Nat)
noncomputable def nm78 : List Nat := [0, 1, 2, 3, 7, 5, 8]
noncomputable def onE1 (X Y : ByteArray) : List MapEntry := [⟨.string X, .string Y, 0⟩]
noncomputable def cAn3 (X Y : ByteArray) : List Prop := [okB X Y true, hasP true W m X false, fuQ true W m, sfQ X true, rlQ Y false]
theorem hl_An3 : mapN (fun o => mapN (fun w => outL [] (hlC V N n k many false false es c W m i) nm78 (hlS V N n k many J true true es c W m i (some (1, 3))) (true :: app (dirQ 14 o) (app (dW w) [true, false, false, true, false])) z) (fromN 3 0)) (fromN 15 0) =
  mapN (fun o => mapN (fun w => (hlX V N n i z o w (cAd true W m (aFr V i) (aTo V i) (app (cAn3 W m (aFr V i) (aTo V i)) (i1 i))), some (.inr (modSeen [] [(6, .ent (.obj (.map [(.str (.sym (aFr V i)), .str (.sym (aTo V i)), 0)] 1)))] (seenC nm78 9 (hlC V N n k many false false (onE1 (aFr V i) (aTo V i)) 1 (tiW true W m (aFr V i) (aTo V i)) 1 (i + 1))))))) (fromN 3 0)) (fromN 15 0) := by kernel_rfl
noncomputable def shN (b : Bool) : List Prop := [N * 3 = N * 3 / 3 * 3, ((⟨V, N * 3 / 3, n⟩ : Pw).n : Int) ≤ 30 → (⟨V, N * 3 / 3, n⟩ : Pw).okA ∧ (⟨V, N * 3 / 3, n⟩ : Pw).n ≤ 1000000, (!cB (shP ⟨V, N * 3 / 3, n⟩ 30)) = b]
theorem hl_init : outL [] (hlC V N n k many true true es c W m 0) nm6 (hlT V N n k many (some (1, 3))) [false] z = (shN V N n false, some (.inr (modSeen [(0, 8, .int .i64 (.lit 0))] [(5, .ent (.own (.lst [.slice ⟨4, .lit 0⟩ (.lit 0) (.lit 0)]) true 30))] (seenC nm6 6 (hlC V N n k many true true es c W m 0))))) := by kernel_rfl
theorem hl_few : outO [] (hlT V N n k many none) [true] = (shN V N n true, some (.bool (.lit true), [])) := by kernel_rfl
theorem hlz_nil : outO [] (hlZ many none) [false, true, false, false] = ([(!cB ((0 : Int) ≤ 30)) = false, sfQ laS true, rlQ laR false, mnQ many 0 false], some (.bool (.lit true), [])) := by kernel_rfl
theorem hl_e0 : outL [] (hlC V N n k many true true es c W m i) [] (hlS V N n k many J true true es c W m i none) [false, false, true, false, false, false, false, false] z =
  ([decide ((i : Int) < (n : Int)) = false, decide ((i : Int) < (n : Int)) = false, sfQ laS true, rlQ laR false, false = false, mnQ many 0 false, false = false, false = false], some (.inl (.bool (.lit true), []))) := by kernel_rfl
theorem hl_e1 : outL [] (hlC V N n k many false true es c W m i) [] (hlS V N n k many J false true es c W m i none) [false, false, true, true, false, false, false, false, false, false, false, false] z =
  (app (hmI n es c i true) (app (hmL es false) [false = false, mnQ many 0 false, false = false, false = false]), some (.inl (.bool (.lit true), []))) := by kernel_rfl
/- Names. -/
noncomputable def nqOK (names : List Nat) (mn re re' : Bool) : Prop := ∀ (V : Nat → Value) (N n k : Nat) (many : Int) (es : List MapEntry) (c : Nat) (W : Nat → Value) (m i : Nat) (es' : List MapEntry) (c' : Nat) (W' : Nat → Value) (m' i' : Nat), boolC (namesOK 1 names (hlC V N n k many mn re es c W m i) (hlC V N n k many mn re' es' c' W' m' i')) (allN noLoopE (hlC V N n k many mn re' es' c' W' m' i').heap) false = true
theorem nm_7 : nqOK nm7 false re re := by intro V N n k many es c W m i es' c' W' m' i'; cases re <;> kernel_rfl
theorem nm_8 (re' : Bool) : nqOK nm8 false re re' := by intro V N n k many es c W m i es' c' W' m' i'; cases re <;> cases re' <;> kernel_rfl
theorem nm_9 : nqOK nm9 false re re := by intro V N n k many es c W m i es' c' W' m' i'; cases re <;> kernel_rfl
theorem nm_6 : nqOK nm6 true true true := by intro V N n k many es c W m i es' c' W' m' i'; kernel_rfl
theorem nm_c : nqOK nmc true true true := by intro V N n k many es c W m i es' c' W' m' i'; kernel_rfl
theorem nm_78 : nqOK nm78 false false false := by intro V N n k many es c W m i es' c' W' m' i'; kernel_rfl
theorem hl_tmp (mn : Bool) : (((hlC V N n k many mn re es c W m i).frames[0]?).bind fun p => p.tmps[8]?) = some (some (.int .i64 (.sym i))) := by cases mn <;> cases re <;> kernel_rfl
theorem hl_cell (mn : Bool) : (hlC V N n k many mn re es c W m i).heap[5]? = some (.ent (.own (.lst [hlR re m]) true 30)) := by cases mn <;> cases re <;> rfl
theorem hm_names (W' : Nat → Value) (m' : Nat) (es'' : List MapEntry) (c'' : Nat) (i' : Nat) : boolC (namesOK 1 n9' (hmC V N n k many es c es' c' W U m i) (hmC V N n k many es c es'' c'' W' U m' i')) (allN noLoopE (hmC V N n k many es c es'' c'' W' U m' i').heap) false = true := by kernel_rfl
theorem hm_tmp : (((hmC V N n k many es c es' c' W U m i).frames[0]?).bind fun p => p.tmps[10]?) = some (some (.int .i64 (.sym i))) := by kernel_rfl
theorem hn_names (j' : Nat) : boolC (namesOK 1 n13 (hnC V N n k many es c es' c' W U m i false j) (hnC V N n k many es c es' c' W U m i false j')) (allN noLoopE (hnC V N n k many es c es' c' W U m i false j').heap) false = true := by kernel_rfl
theorem hn_tmp : (((hnC V N n k many es c es' c' W U m i false j).frames[0]?).bind fun p => p.tmps[7]?) = some (some (.int .i64 (.sym j))) := by kernel_rfl
theorem hp_names (j' : Nat) : boolC (namesOK 1 n18 (hpC V N n k many es c es' c' W U m i j) (hpC V N n k many es c es' c' W U m i j')) (allN noLoopE (hpC V N n k many es c es' c' W U m i j').heap) false = true := by kernel_rfl
theorem hp_names17 (j' : Nat) : boolC (namesOK 1 n17 (hpC V N n k many es c es' c' W U m i j) (hpC V N n k many es c es' c' W U m i j')) (allN noLoopE (hpC V N n k many es c es' c' W U m i j').heap) false = true := by kernel_rfl
theorem hp_tmp : (((hpC V N n k many es c es' c' W U m i j).frames[0]?).bind fun p => p.tmps[7]?) = some (some (.int .i64 (.sym j))) := by kernel_rfl
end
end Go.Proofs.YtoooohgejkebjaaGreatDoor.Aes


/-
  ReferralHosts: every round of the first loop.
-/
namespace Go.Proofs.YtoooohgejkebjaaGreatDoor.Aes
open Go.Sim
open Go.Proofs
variable {α : Type}

set_option maxRecDepth 1000000
structure HlS where
  mn : Bool
  re : Bool
  es : List MapEntry
  c : Nat
  W : Nat → Value
  m : Nat
  i : Nat
def RowOK (re : Bool) (W : Nat → Value) (m : Nat) (l : List Pr) : Prop := boolC re (l = []) (PrV W m ∧ prL W m = l)
theorem tr_ok {re : Bool} {W : Nat → Value} {m : Nat} {l : List Pr} (h : RowOK re W m l) (hl : l.length ≤ 1000) : (tR re W m).ok ∧ (tR re W m).list = l ∧ (tR re W m).n = l.length := by
  cases re with
  | true =>
    have h : l = [] := h
    subst h
    exact ⟨⟨Nat.le_refl _, by show (0 : Nat) ≤ _; omega, fun i hi => by have hi : i < 0 := hi; omega⟩, rfl, rfl⟩
  | false =>
    obtain ⟨h1, h2⟩ : PrV W m ∧ prL W m = l := h
    have hm : m = l.length := by rw [← h2, prL_length]
    exact ⟨⟨by show m ≤ m * 2 / 2; omega, by show m ≤ _; omega, h1⟩, h2, hm⟩
theorem row_rowP {l : List Pr} {m : Nat} (h : l.length = m) : RowOK false (rowP l) m l := by subst h; exact row_ok l
theorem hN_ok (re : Bool) (m : Nat) : hN re m := by
  cases re with
  | true => exact (show (0 : Nat) = 0 / 2 * 2 from rfl)
  | false => show m * 2 = m * 2 / 2 * 2; omega
/-- the reference's list, the map -/
structure HlS.fit (a : HlS) (l : List Pr) : Prop where
  row : RowOK a.re a.W a.m l
  len : l.length ≤ a.i
  suf : ∀ p ∈ l, sfP p.1
  map : boolC a.mn (l = [] ∧ a.re = true) (HostOK a.es a.c l)
  ne : a.re = false → l ≠ []
theorem wh_any (V : Nat → Value) (i : Nat) : ∃ w, w < 6 ∧ ∀ p ∈ cW V i w, p := by
  cases h0 : wh V i 0 with
  | true => exact ⟨0, by omega, all_cons h0 (all_cons h0 all_nil)⟩
  | false =>
  cases h1 : wh V i 1 with
  | true => exact ⟨1, by omega, all_cons h0 (all_cons h1 (all_cons h1 all_nil))⟩
  | false =>
  cases h2 : wh V i 2 with
  | true => exact ⟨2, by omega, all_cons h0 (all_cons h1 (all_cons h2 all_nil))⟩
  | false =>
  cases h3 : wh V i 3 with
  | true => exact ⟨3, by omega, all_cons h0 (all_cons h1 (all_cons h2 (all_cons h3 all_nil)))⟩
  | false =>
  cases h4 : wh V i 4 with
  | true => exact ⟨4, by omega, all_cons h0 (all_cons h1 (all_cons h2 (all_cons h3 (all_cons h4 all_nil))))⟩
  | false => exact ⟨5, by omega, all_cons h0 (all_cons h1 (all_cons h2 (all_cons h3 (all_cons h4 all_nil))))⟩
theorem co_suf : sfP coS := by
  refine ⟨by show 1 ≤ (8 : Nat); omega, by show (8 : Nat) ≤ 64; omega, fun i hi => ?_⟩
  have hi : i < 8 := hi
  rcases (show i = 0 ∨ i = 1 ∨ i = 2 ∨ i = 3 ∨ i = 4 ∨ i = 5 ∨ i = 6 ∨ i = 7 by omega) with rfl | rfl | rfl | rfl | rfl | rfl | rfl | rfl <;> exact ⟨by decide, by decide, by decide⟩
theorem co_rlm : rlmP coR := by
  refine ⟨by show 1 ≤ (4 : Nat); omega, by show (4 : Nat) ≤ 32; omega, fun i hi => ?_⟩
  have hi : i < 4 := hi
  refine .inl (.inl ?_)
  rcases (show i = 0 ∨ i = 1 ∨ i = 2 ∨ i = 3 by omega) with rfl | rfl | rfl | rfl <;> decide
theorem la_suf : sfP laS := by
  refine ⟨by show 1 ≤ (9 : Nat); omega, by show (9 : Nat) ≤ 64; omega, fun i hi => ?_⟩
  have hi : i < 9 := hi
  rcases (show i = 0 ∨ i = 1 ∨ i = 2 ∨ i = 3 ∨ i = 4 ∨ i = 5 ∨ i = 6 ∨ i = 7 ∨ i = 8 by omega) with rfl | rfl | rfl | rfl | rfl | rfl | rfl | rfl | rfl <;> exact ⟨by decide, by decide, by decide⟩
theorem la_rlm : rlmP laR := by
  refine ⟨by show 1 ≤ (5 : Nat); omega, by show (5 : Nat) ≤ 32; omega, fun i hi => ?_⟩
  have hi : i < 5 := hi
  refine .inl (.inl ?_)
  rcases (show i = 0 ∨ i = 1 ∨ i = 2 ∨ i = 3 ∨ i = 4 by omega) with rfl | rfl | rfl | rfl | rfl <;> decide
theorem rlQ_ok {x : ByteArray} (h : rlmP x) : rlQ x false := by unfold rlQ; rw [rlmB_iff.2 h]; rfl
inductive LwA
  | a (s : HlS)
  | b (es : List MapEntry) (c : Nat) (es' : List MapEntry) (c' : Nat) (W : Nat → Value) (i : Nat)
  | n (es : List MapEntry) (c : Nat) (es' : List MapEntry) (c' : Nat) (W : Nat → Value) (i j : Nat)
  | p (es : List MapEntry) (c : Nat) (es' : List MapEntry) (c' : Nat) (W : Nat → Value) (i j : Nat)
section
variable {V : Nat → Value} {N n : Nat} (k : Nat) (many : Int)
noncomputable def hlK (V : Nat → Value) (N n : Nat) (a : HlS) : Cut := hlC V N n k many a.mn a.re a.es a.c a.W a.m a.i
noncomputable def lwK (V : Nat → Value) (N n : Nat) : LwA → Cut
  | .a s => hlK k many V N n s
  | .b es c es' c' W i => hmC V N n k many es c es' c' W (rowP (ruLs es)) es.length i
  | .n es c es' c' W i j => hnC V N n k many es c es' c' W (rowP (ruLs es)) es.length i false j
  | .p es c es' c' W i j => hpC V N n k many es c es' c' W (rowP (ruLs es)) es.length i j
def EndOK (es : List MapEntry) (c : Nat) (W : Nat → Value) : Prop := es.length ≤ 30 ∧ 1 ≤ es.length ∧ HostOK es c (ruLs es) ∧ PrV W es.length ∧ prL W es.length = ruLs es
def lwQ (n : Nat) (many : Int) : LwA → Prop
  | .a s => s.i ≤ n ∧ ∃ l, s.fit l
  | .b es c _ _ W i => EndOK es c W ∧ i ≤ es.length
  | .n es c _ _ W _ j => EndOK es c W ∧ j ≤ es.length ∧ (j = 0 ∨ (j : Int) < many)
  | .p es c _ _ W _ j => EndOK es c W ∧ j ≤ es.length
def lwMu (n : Nat) : LwA → Nat
  | .a s => 3000000 + (n - s.i)
  | .b es _ _ _ _ i => 2000000 + (es.length - i)
  | .n es _ _ _ _ _ j => 1000000 + (es.length - j)
  | .p es _ _ _ _ _ j => es.length - j
def lwD1 : SV → List SO → Prop := fun v _ => v = .bool (.lit true)
/-- a round done -/
def RoundOK (V : Nat → Value) (N n : Nat) (a : HlS) (J : Junk) : Prop := TurnsTo cfgHL 1 (lwK k many V N n) (fun a' => lwQ n many a' ∧ lwMu n a' < lwMu n (.a a)) lwD1 ((hlK k many V N n a).fill J)
variable {k many}
theorem round_z {a a' : HlS} {J : Junk} {M : Cut} {names : List Nat} {ds : List Bool} {w q : Nat} {ps : List Prop} {mods : List (Nat × HP)} {l' : List Pr} (hN : n ≤ N) (hV : ActV V n) (hi : a.i < n) (hi' : a'.i = a.i + 1) (hf : a'.fit l')
    (h : ∀ z o, o < 15 → outL [] M names (hlS V N n k many J a.mn a.re a.es a.c a.W a.m a.i (some (1, 3))) (true :: app (dirQ 14 o) ds) z = (hlX V N n a.i z o w ps, some (.inr (modSeen [] mods (seenC names q (hlK k many V N n a'))))))
    (hn : boolC (namesOK 1 names M (hlK k many V N n a')) (allN noLoopE (hlK k many V N n a').heap) false = true) (hm : ∀ e ∈ mods, ∀ E0, (hlK k many V N n a').heap[e.1]? = some E0 → ImpE (nameOf names q) (some e.2) E0) (hw : ∀ p ∈ cW V a.i w, p) (hp : ∀ p ∈ ps, p) : RoundOK k many V N n a J := by
  refine to_turnZ (js := []) (K := fun _ => False) (M := M) (names := names) (some (1, 3)) 20000 (fun z => ?_) (fun v es h => h.elim)
  have ho : min (z 0 0 - 0) 14 < 15 := by omega
  refine ⟨_, _, _, h z _ ho, ?_, ?_⟩
  · obtain ⟨⟨x, h0⟩, h1, h2⟩ := hV a.i hi
    refine all_cons (decide_eq_true (by omega)) (all_cons ⟨by omega, by omega⟩ (all_cons (by omega) (all_cons ⟨?_, ?_, ?_, trivial⟩ (app_all (cndQ_ok (z 0 0) 14 0 (Nat.zero_le _)) (app_all hw hp)))))
    · rw [Nat.add_zero, h0]; exact fun _ => rfl
    · rw [h1]; exact fitS _
    · rw [h2]; exact fitS _
  · show SeenTurn _ _ _ _ _ _
    exact ⟨.a a', q, [], mods, ⟨⟨by omega, l', hf⟩, by show 3000000 + (n - a'.i) < 3000000 + (n - a.i); omega⟩, rfl, hn, by simp, hm⟩
theorem round_by {a a' : HlS} {J : Junk} {names : List Nat} {ds : List Bool} {w q : Nat} {ps : List Prop} {l' : List Pr} (hN : n ≤ N) (hV : ActV V n) (hi : a.i < n) (hi' : a'.i = a.i + 1) (hf : a'.fit l')
    (h : ∀ z o, o < 15 → hlD V N n k many J z a.es a.c a.W a.m a.i a.mn a.re o ds names = (hlX V N n a.i z o w ps, seN names q (hlK k many V N n a'))) (hm : a'.mn = a.mn) (hn : nqOK names a.mn a.re a'.re) (hw : ∀ p ∈ cW V a.i w, p) (hp : ∀ p ∈ ps, p) : RoundOK k many V N n a J := by
  refine round_z (M := hlC V N n k many a.mn a.re a.es a.c a.W a.m a.i) (mods := []) hN hV hi hi' hf h ?_ (by simp) hw hp
  show boolC (namesOK _ _ _ (hlC V N n k many a'.mn a'.re a'.es a'.c a'.W a'.m a'.i)) (allN noLoopE (hlC V N n k many a'.mn a'.re a'.es a'.c a'.W a'.m a'.i).heap) false = true
  rw [hm]; exact hn _ _ _ _ _ _ _ _ _ _ _ _ _ _ _
theorem round_some {a : HlS} {l : List Pr} (J : Junk) (hN1 : n ≤ N) (hn : n ≤ 30) (hV : ActV V n) (hs : ∀ i, i < n → (aFr V i).size ≤ 100 ∧ (aTo V i).size ≤ 60) (hi : a.i < n) (hf : a.fit l) (hmn : a.mn = false) : RoundOK k many V N n a J := by
  obtain ⟨mn, re, es, c, W, m, i⟩ := a
  obtain rfl : mn = false := hmn
  have hi : i < n := hi
  obtain ⟨h1, h2, h3, h4, h5⟩ := hf
  have h1 : RowOK re W m l := h1
  have h2 : l.length ≤ i := h2
  have hM : HostOK es c l := h4
  have h5 : re = false → l ≠ [] := h5
  obtain ⟨t1, t2, t3⟩ := tr_ok h1 (by omega)
  have hz := hs i hi
  have hlen := hM.len
  have hE : ∀ p ∈ i1 i, p := all_cons ⟨by omega, by omega⟩ all_nil
  have hfit : (⟨false, re, es, c, W, m, i + 1⟩ : HlS).fit l := ⟨h1, by show l.length ≤ i + 1; omega, h3, h4, h5⟩
  generalize hXe : aFr V i = X at *
  generalize hYe : aTo V i = Y at *
  have hHas : ∀ {b : Bool}, hasK es (.string X) = b → hasP re W m X b := fun {b} hb => by
    show cB (∃ p ∈ (tR re W m).list, p.1 = X) = b
    rw [t2]
    cases b with
    | true => exact cB_true (hM.has.1 hb)
    | false => exact cB_false fun hm => by rw [hM.has.2 hm] at hb; cases hb
  have hAd : ∀ {q : List Prop}, (∀ p ∈ q, p) → ∀ p ∈ cAd re W m X Y q, p := fun hq => all_cons (hN_ok re m) (all_cons ⟨t1, by omega, by omega⟩ hq)
  have hRm : ∀ {q : List Prop}, (∀ p ∈ q, p) → ∀ p ∈ cRm re W m X q, p := fun hq => all_cons (hN_ok re m) (all_cons ⟨t1, by omega⟩ hq)
  obtain ⟨w, hw6, hw⟩ := wh_any V i
  by_cases hw3 : w < 3
  · -- Add
    have same : ∀ a', a' < 3 → (∀ p ∈ cA re W m es X Y a', p) → RoundOK k many V N n ⟨false, re, es, c, W, m, i⟩ J := fun a' ha' hp => by
      refine round_by (ds := app (dW w) (dA a')) (q := 8) hN1 hV hi rfl hfit (fun z o ho => ?_) rfl (nm_7 re) hw (hAd (app_all hp hE))
      have := mapN_at0 (mapN_at0 (mapN_at0 (hl_A V N n k many J z re es c W m i) ho) hw3) ha'
      rw [hXe, hYe] at this
      exact this
    cases hx : sfBo X with
    | false => exact same 0 (by omega) (all_cons (by unfold okB; rw [hx]; rfl) (all_cons hx all_nil))
    | true =>
    cases hy : rlmB Y with
    | false => exact same 1 (by omega) (all_cons (by unfold okB; rw [hx, hy]; rfl) (all_cons hx (all_cons (by unfold rlQ; rw [hy]; rfl) all_nil)))
    | true =>
    have hok : okB X Y true := by unfold okB; rw [hx, hy]; rfl
    have hrl : rlQ Y false := by unfold rlQ; rw [hy]; rfl
    cases hh : hasK es (.string X) with
    | true => exact same 2 (by omega) (all_cons hok (all_cons (hHas hh) (all_cons hx (all_cons hrl (all_cons hh all_nil)))))
    | false =>
      have hM' := hM.ins (p := (X, Y)) hh
      have hil : (insH l (X, Y)).length = l.length + 1 := insH_length l (X, Y)
      have hfit' : (⟨false, false, tiK es c X Y, c + 1, tiW re W m X Y, (tR re W m).n + 1, i + 1⟩ : HlS).fit (insH l (X, Y)) := by
        refine ⟨?_, by show _ ≤ i + 1; omega, fun p hp => ?_, hM', fun _ he => by rw [he] at hil; simp at hil⟩
        · show RowOK false (tiW re W m X Y) ((tR re W m).n + 1) _
          unfold tiW
          rw [t2]
          exact row_rowP (by rw [hil, t3])
        · rcases List.mem_cons.1 ((insH_perm l (X, Y)).mem_iff.1 hp) with rfl | hp
          · exact sfBo_iff.1 hx
          · exact h3 p hp
      have hc : ∀ p ∈ cA re W m es X Y 3, p := all_cons hok (all_cons (hHas hh) (all_cons (decide_eq_false (by rw [t3]; omega)) (all_cons hx (all_cons hrl (all_cons hh (all_cons (decide_eq_false (by omega)) (all_cons hh all_nil)))))))
      refine round_by (ds := app (dW w) (dA 3)) (q := 9) hN1 hV hi rfl hfit' (fun z o ho => ?_) rfl (nm_8 re false) hw (hAd (app_all hc hE))
      have := mapN_at0 (mapN_at0 (hl_A3 V N n k many J z re es c W m i) ho) hw3
      rw [hXe, hYe] at this
      exact this
  by_cases hw4 : w = 3
  · -- Remove
    subst hw4
    have same : ∀ a', a' < 2 → (∀ p ∈ cR re W m es X a', p) → RoundOK k many V N n ⟨false, re, es, c, W, m, i⟩ J := fun a' ha' hp => by
      refine round_by (ds := app (dW 3) (dR a')) (q := 8) hN1 hV hi rfl hfit (fun z o ho => ?_) rfl (nm_7 re) hw (hRm (app_all hp hE))
      have := mapN_at0 (mapN_at0 (hl_R V N n k many J z re es c W m i) ho) ha'
      rw [hXe] at this
      exact this
    cases hx : sfBo X with
    | false => exact same 0 (by omega) (all_cons hx (all_cons hx all_nil))
    | true =>
    cases hh : hasK es (.string X) with
    | false => exact same 1 (by omega) (all_cons hx (all_cons (hHas hh) (all_cons hx (all_cons hh all_nil))))
    | true =>
      have hin := hM.has.1 hh
      have hre : re = false := by
        cases re with
        | false => rfl
        | true =>
          have h1 : l = [] := h1
          subst h1
          obtain ⟨p, hp, _⟩ := hin
          cases hp
      subst hre
      have hM' := hM.del X
      have hdl := delH_length hin
      have hsub : ∀ p ∈ delH l X, p ∈ l := fun p hp => List.mem_of_mem_eraseP hp
      by_cases hone : (tR false W m).n = 1
      · have hnil : delH l X = [] := List.length_eq_zero_iff.1 (by rw [hdl, ← t3, hone])
        have hfit' : (⟨false, true, delK es (.string X), c, W, m, i + 1⟩ : HlS).fit (delH l X) := ⟨hnil, by rw [hnil]; exact Nat.zero_le _, fun p hp => h3 p (hsub p hp), hM', fun h => by cases h⟩
        refine round_z (ds := app (dW 3) (dR 2)) (names := nm8) (q := 9) (M := hlC V N n k many false false es c W m i) (mods := [(5, .ent (.own (.lst [.slice ⟨8, .lit 0⟩ (.lit 0) (.lit 0)]) true 30))]) hN1 hV hi rfl hfit' (fun z o ho => ?_) (nm_8 false true V N n k many es c W m i _ _ _ _ _) (fun e he E0 hE0 => ?_) hw
          (hRm (app_all (l := cR false W m es X 2) (all_cons hx (all_cons (hHas hh) (all_cons (decide_eq_true hone) (all_cons hx (all_cons hh all_nil))))) hE))
        · have := mapN_at0 (hl_R2 V N n k many J z es c W m i) ho
          rw [hXe] at this
          exact this
        · obtain rfl := List.mem_singleton.1 he
          have hE0 : (hlC V N n k many false true (delK es (.string X)) c W m (i + 1)).heap[5]? = some E0 := hE0
          rw [hl_cell] at hE0
          cases hE0
          exact ⟨_, rfl, fun _ _ h => h⟩
      · have hfit' : (⟨false, false, delK es (.string X), c, tdW W m X, (tR false W m).n - 1, i + 1⟩ : HlS).fit (delH l X) := by
          have hpos : 0 < l.length := by
            obtain ⟨p, hp, _⟩ := hin
            exact List.length_pos_iff.2 fun h => by rw [h] at hp; cases hp
          refine ⟨?_, by show (delH l X).length ≤ i + 1; omega, fun p hp => h3 p (hsub p hp), hM', fun _ he => ?_⟩
          · show RowOK false (tdW W m X) ((tR false W m).n - 1) _
            unfold tdW
            rw [t2]
            exact row_rowP (by rw [hdl, t3])
          · rw [he] at hdl
            have : l.length = 1 := by simp at hdl; omega
            exact hone (by rw [t3, this])
        refine round_by (ds := app (dW 3) (dR 3)) (q := 9) hN1 hV hi rfl hfit' (fun z o ho => ?_) rfl (nm_8 false false) hw (hRm (app_all (l := cR false W m es X 3) (all_cons hx (all_cons (hHas hh) (all_cons (decide_eq_false hone) (all_cons hx (all_cons hh all_nil))))) hE))
        have := mapN_at0 (hl_R3 V N n k many J z es c W m i) ho
        rw [hXe] at this
        exact this
  by_cases hw5 : w = 4
  · -- Copy
    subst hw5
    have hb : ∃ b, b < 2 ∧ ∀ p ∈ cB1 es b, p := by
      cases hh : hasK es (.string coS) with
      | true => exact ⟨0, by omega, all_cons (sfBo_iff.2 co_suf) (all_cons (rlQ_ok co_rlm) (all_cons hh all_nil))⟩
      | false => exact ⟨1, by omega, all_cons (sfBo_iff.2 co_suf) (all_cons (rlQ_ok co_rlm) (all_cons hh (all_cons (decide_eq_false (by omega)) (all_cons hh all_nil))))⟩
    obtain ⟨b, hb2, hb⟩ := hb
    have fin : ∀ u, u < 3 → (∀ p ∈ cV X (esC es c b) u, p) → RoundOK k many V N n ⟨false, re, es, c, W, m, i⟩ J := fun u hu hp => by
      refine round_by (ds := app (dW 4) (app (dB b) (dV u))) (q := 10) hN1 hV hi rfl hfit (fun z o ho => ?_) rfl (nm_9 re) hw (app_all hb (app_all hp hE))
      have := mapN_at0 (mapN_at0 (mapN_at0 (hl_C V N n k many J z re es c W m i) ho) hb2) hu
      rw [hXe] at this
      exact this
    cases hx : sfBo X with
    | false => exact fin 0 (by omega) (all_cons hx all_nil)
    | true =>
      cases hh : hasK (esC es c b) (.string X) with
      | false => exact fin 1 (by omega) (all_cons hx (all_cons hh all_nil))
      | true => exact fin 2 (by omega) (all_cons hx (all_cons hh all_nil))
  · -- Realm
    obtain rfl : w = 5 := by omega
    have hsz : ∀ p ∈ l, 1 ≤ p.1.size ∧ p.1.size ≤ 64 := fun p hp => ⟨(h3 p hp).1, (h3 p hp).2.1⟩
    have hL : ∀ {b : Bool} {q : List Prop}, hpQ X es b → rrQ' re W m X b → (∀ p ∈ q, p) → ∀ p ∈ cL re W m es X b q, p := fun h h' hq => all_cons (by omega) (all_cons h (all_cons (hN_ok re m) (all_cons ⟨t1, by omega, by rw [t2]; exact hsz⟩ (all_cons h' hq))))
    have hro : rrO (tR re W m) X = bestH (fun s => mtP (lowS X) s (dotS s)) l := by
      unfold rrO
      rw [t2]; rfl
    rcases realm_same (L := lowS X) hM (dot := dotS) dot_ok hsz with ⟨r1, r2⟩ | ⟨i', p, r1, r2, r3⟩
    · refine round_by (ds := app (dW 5) [false, false]) (q := 8) hN1 hV hi rfl hfit (fun z o ho => ?_) rfl (nm_7 re) hw (hL (q := i1 i) (by unfold hpQ; rw [r1] <;> rfl) (by unfold rrQ'; rw [hro, r2] <;> rfl) hE)
      have := mapN_at0 (hl_L0 V N n k many J z re es c W m i) ho
      rw [hXe] at this
      exact this
    · have hre : re = false := by
        cases re with
        | false => rfl
        | true =>
          have h1 : l = [] := h1
          subst h1
          cases r2
      subst hre
      refine round_by (ds := app (dW 5) [true, true, true]) (q := 8) hN1 hV hi rfl hfit (fun z o ho => ?_) rfl (nm_7 false) hw (hL (q := smQ false W m es X :: i1 i) (by unfold hpQ; rw [r1] <;> rfl) (by unfold rrQ'; rw [hro, r2] <;> rfl) (all_cons ?_ hE))
      · have := mapN_at0 (hl_L1 V N n k many J z es c W m i) ho
        rw [hXe] at this
        exact this
      · unfold smQ
        rw [hro, r2, r1]
        refine decide_eq_true ?_
        show vStr (getK es (.string (sufA (lowS X) i'))) = p.2
        rw [r3]; rfl
theorem round_none {a : HlS} {l : List Pr} (J : Junk) (hN1 : n ≤ N) (hn : n ≤ 30) (hV : ActV V n) (hs : ∀ i, i < n → (aFr V i).size ≤ 100 ∧ (aTo V i).size ≤ 60) (hi : a.i < n) (hf : a.fit l) (hmn : a.mn = true) : RoundOK k many V N n a J := by
  obtain ⟨mn, re, es, c, W, m, i⟩ := a
  obtain rfl : mn = true := hmn
  have hi : i < n := hi
  obtain ⟨h1, h2, h3, h4, h5⟩ := hf
  obtain ⟨rfl, rfl⟩ : l = [] ∧ re = true := h4
  obtain ⟨t1, t2, t3⟩ := tr_ok h1 (by simp)
  have hz := hs i hi
  have hE : ∀ p ∈ i1 i, p := all_cons ⟨by omega, by omega⟩ all_nil
  have hfit : (⟨true, true, es, c, W, m, i + 1⟩ : HlS).fit [] := ⟨h1, Nat.zero_le _, h3, ⟨rfl, rfl⟩, fun h => by cases h⟩
  generalize hXe : aFr V i = X at *
  generalize hYe : aTo V i = Y at *
  have hHas : hasP true W m X false := by
    show cB (∃ p ∈ (tR true W m).list, p.1 = X) = false
    rw [t2]
    exact cB_false fun ⟨p, hp, _⟩ => by cases hp
  have hAd : ∀ {q : List Prop}, (∀ p ∈ q, p) → ∀ p ∈ cAd true W m X Y q, p := fun hq => all_cons (hN_ok true m) (all_cons ⟨t1, by omega, by omega⟩ hq)
  have hRm : ∀ {q : List Prop}, (∀ p ∈ q, p) → ∀ p ∈ cRm true W m X q, p := fun hq => all_cons (hN_ok true m) (all_cons ⟨t1, by omega⟩ hq)
  obtain ⟨w, hw6, hw⟩ := wh_any V i
  by_cases hw3 : w < 3
  · -- Add
    have same : ∀ a', a' < 2 → (∀ p ∈ cA true W m es X Y a', p) → RoundOK k many V N n ⟨true, true, es, c, W, m, i⟩ J := fun a' ha' hp => by
      refine round_by (ds := app (dW w) (dA a')) (q := 7) hN1 hV hi rfl hfit (fun z o ho => ?_) rfl nm_6 hw (hAd (app_all hp hE))
      have := mapN_at0 (mapN_at0 (mapN_at0 (hl_An V N n k many J z es c W m i) ho) hw3) ha'
      rw [hXe, hYe] at this
      exact this
    cases hx : sfBo X with
    | false => exact same 0 (by omega) (all_cons (by unfold okB; rw [hx]; rfl) (all_cons hx all_nil))
    | true =>
    cases hy : rlmB Y with
    | false => exact same 1 (by omega) (all_cons (by unfold okB; rw [hx, hy]; rfl) (all_cons hx (all_cons (by unfold rlQ; rw [hy]; rfl) all_nil)))
    | true =>
      have hok : okB X Y true := by unfold okB; rw [hx, hy]; rfl
      have hrl : rlQ Y false := by unfold rlQ; rw [hy]; rfl
      have hfit' : (⟨false, false, onE1 X Y, 1, tiW true W m X Y, 1, i + 1⟩ : HlS).fit [(X, Y)] := by
        refine ⟨?_, by show 1 ≤ i + 1; omega, fun p hp => ?_, HostOK.one (X, Y), fun _ he => by cases he⟩
        · show RowOK false (tiW true W m X Y) 1 _
          unfold tiW
          rw [t2]
          exact row_rowP (l := insH [] (X, Y)) rfl
        · obtain rfl := List.mem_singleton.1 hp
          exact sfBo_iff.1 hx
      refine round_z (ds := app (dW w) [true, false, false, true, false]) (names := nm78) (q := 9) (M := hlC V N n k many false false es c W m i) (mods := [(6, .ent (.obj (.map [(.str (.sym X), .str (.sym Y), 0)] 1)))]) hN1 hV hi rfl hfit' (fun z o ho => ?_) (nm_78 V N n k many es c W m i _ _ _ _ _) (fun e he E0 hE0 => ?_) hw
        (hAd (app_all (l := cAn3 W m X Y) (all_cons hok (all_cons hHas (all_cons rfl (all_cons hx (all_cons hrl all_nil))))) hE))
      · have := mapN_at0 (mapN_at0 (hl_An3 V N n k many J z es c W m i) ho) hw3
        rw [hXe, hYe] at this
        exact this
      · obtain rfl := List.mem_singleton.1 he
        have hE0 : some (HP.ent (.obj (.amap kSt kSt (onE1 X Y) 1))) = some E0 := hE0
        cases hE0
        refine ⟨_, rfl, fun β x h => SObj.amap_den.2 ⟨fun e he => ?_, ?_⟩⟩
        · obtain rfl := List.mem_singleton.1 he
          exact ⟨fun _ => rfl, fun _ => rfl⟩
        · have h : some (Obj.map #[⟨.string X, .string Y, 0⟩] 1) = some x := h
          cases h
          rfl
  by_cases hw4 : w = 3
  · -- Remove
    subst hw4
    have same : ∀ a', a' < 2 → (∀ p ∈ (ntC a' [sfQ X false, sfQ X false] fun _ => [sfQ X true, hasP true W m X false, sfQ X true]), p) → RoundOK k many V N n ⟨true, true, es, c, W, m, i⟩ J := fun a' ha' hp => by
      refine round_by (ds := app (dW 3) (ntC a' [false, false] fun _ => [true, false, true])) (q := 7) hN1 hV hi rfl hfit (fun z o ho => ?_) rfl nm_6 hw (hRm (app_all hp hE))
      have := mapN_at0 (mapN_at0 (hl_Rn V N n k many J z es c W m i) ho) ha'
      rw [hXe] at this
      exact this
    cases hx : sfBo X with
    | false => exact same 0 (by omega) (all_cons hx (all_cons hx all_nil))
    | true => exact same 1 (by omega) (all_cons hx (all_cons hHas (all_cons hx all_nil)))
  by_cases hw5 : w = 4
  · -- Copy
    subst hw5
    have fin : ∀ u, u < 3 → (∀ p ∈ cVn X u, p) → RoundOK k many V N n ⟨true, true, es, c, W, m, i⟩ J := fun u hu hp => by
      refine round_by (ds := app (dW 4) (dVn u)) (q := 9) hN1 hV hi rfl hfit (fun z o ho => ?_) rfl nm_c hw (app_all hp hE)
      have := mapN_at0 (mapN_at0 (hl_Cn V N n k many J z es c W m i) ho) hu
      rw [hXe] at this
      exact this
    have hco : ∀ {q : List Prop}, (∀ p ∈ q, p) → ∀ p ∈ sfQ coS true :: rlQ coR false :: q, p := fun hq => all_cons (sfBo_iff.2 co_suf) (all_cons (rlQ_ok co_rlm) hq)
    cases hx : sfBo X with
    | false => exact fin 0 (by omega) (hco (all_cons hx all_nil))
    | true =>
      by_cases he : X = coS
      · exact fin 2 (by omega) (hco (all_cons hx (all_cons (decide_eq_true he) (all_cons (decide_eq_true he) all_nil))))
      · exact fin 1 (by omega) (hco (all_cons hx (all_cons (decide_eq_false he) all_nil)))
  · -- Realm
    obtain rfl : w = 5 := by omega
    have hp0 : hpF [] (lowS X) = none := by
      unfold hpF
      refine List.find?_eq_none.2 fun j _ hd => ?_
      rw [Bool.and_eq_true] at hd
      have h2 : hasK [] (.string (sufA (lowS X) j)) = true := (@of_decide_eq_true _ (Classical.propDecidable _) hd.2).2
      cases h2
    refine round_by (ds := app (dW 5) [false, false]) (q := 7) hN1 hV hi rfl hfit (fun z o ho => ?_) rfl nm_6 hw (ps := cL true W m [] X false (i1 i)) (all_cons (by omega) (all_cons (by unfold hpQ; rw [hp0]; rfl) (all_cons (hN_ok true m) (all_cons ⟨t1, by omega, by rw [t2]; intro p hp; cases hp⟩ (all_cons (by unfold rrQ' rrO; rw [t2]; rfl) hE)))))
    have := mapN_at0 (hl_Ln V N n k many J z es c W m i) ho
    rw [hXe] at this
    exact this
end
end Go.Proofs.YtoooohgejkebjaaGreatDoor.Aes


/-
  A slice of calls of three cells (a number, two strings) that came in.
-/
namespace Go.Proofs.YtoooohgejkebjaaGreatDoor.Aes
open Go.Sim Go.WideShapes Go.ChangeShapes
open Go.Proofs
open Go.RowKit
variable {α : Type}

set_option maxRecDepth 1000000
/-- cells that are read alone -/
theorem start_raw {P : Program} {w : World} {β : Val} {H : List SO} (h : HeapRel P (fun _ => False) w β H w) {x : Addr} {len cap M : Nat} {V : Nat → Value} (hs : x.spot = none) (hl : len ≤ cap)
    (hx : ∀ i, i < M → w.cell? (x.add i) = some (V i)) :
    ∃ β', HeapRel P (fun _ => False) w β' (H ++ [.row (.raw V M)]) w ∧ β.le β' ∧ (slP H.length len cap).den β' = some (.slice (some x) len cap) := by
  have hsn := h.snoc (Go.Sim.Loc.mk x.block x.off 0) (.row (.raw V M)) ?_ (fun ho => by cases ho)
  · refine ⟨_, hsn.1, hsn.2, ?_⟩
    simp only [slP, SV.den, SA.den, SC.den, Val.upd_same, Option.map_some, Option.bind_some, SN.den, Nat.add_zero, sliceV]
    cases x; cases hs
    exact if_pos hl
  · refine ⟨_, (List.range M).map V, Val.upd_same .., ⟨by simp, fun i y hy => ?_⟩, fun i y hy => ?_⟩
    · rw [List.getElem?_map] at hy
      cases hi : (List.range M)[i]? with
      | none => rw [hi] at hy; cases hy
      | some j =>
        rw [hi] at hy; cases hy
        obtain ⟨h1, h2⟩ := List.getElem?_eq_some_iff.1 hi
        rw [List.getElem_range] at h2
        subst h2; rfl
    · rw [List.getElem?_map] at hy
      cases hi : (List.range M)[i]? with
      | none => rw [hi] at hy; cases hy
      | some j =>
        rw [hi] at hy; cases hy
        obtain ⟨h1, h2⟩ := List.getElem?_eq_some_iff.1 hi
        rw [List.getElem_range] at h2
        subst h2
        have hi : i < M := by simpa using h1
        have hc := hx i hi
        have e : (x.add i : Addr) = ⟨x.block, x.off + i, none⟩ := by
          cases x; cases hs
          unfold Addr.add
          split
          · rename_i h0; rw [h0]; rfl
          · rfl
        rw [e] at hc
        refine ⟨?_, fun f => f, hc⟩
        unfold World.cell? at hc
        show x.block < w.heap.size
        by_cases hb : x.block < w.heap.size
        · exact hb
        · have hn : w.heap[x.block]? = none := Array.getElem?_eq_none (by omega)
          simp only [hn] at hc
          cases hc
/-- a slice of calls that came in -/
def ActRow (w : World) (a : Option Addr) (len cap : Nat) (V : Nat → Value) : Prop :=
  (a = none ∧ len = 0 ∧ cap = 0) ∨ ∃ x, a = some x ∧ x.spot = none ∧ len ≤ cap ∧ (∀ i, i < cap * 3 → w.cell? (x.add i) = some (V i)) ∧ ActV V cap
noncomputable def actV (q : Nat → Int × ByteArray × ByteArray) (j : Nat) : Value := if j % 3 = 0 then .int .i64 (q (j / 3)).1 else if j % 3 = 1 then .string (q (j / 3)).2.1 else .string (q (j / 3)).2.2
theorem actV_at (q : Nat → Int × ByteArray × ByteArray) (i : Nat) : actV q (i * 3) = .int .i64 (q i).1 ∧ actV q (i * 3 + 1) = .string (q i).2.1 ∧ actV q (i * 3 + 2) = .string (q i).2.2 := by
  unfold actV
  refine ⟨?_, ?_, ?_⟩
  · rw [if_pos (by omega), show i * 3 / 3 = i by omega]
  · rw [if_neg (by omega), if_pos (by omega), show (i * 3 + 1) / 3 = i by omega]
  · rw [if_neg (by omega), if_neg (by omega), show (i * 3 + 2) / 3 = i by omega]
theorem actV_ok (q : Nat → Int × ByteArray × ByteArray) (n : Nat) : ActV (actV q) n := fun i hi => by
  obtain ⟨h0, h1, h2⟩ := actV_at q i
  unfold aFr aTo
  rw [Nat.zero_add, h0, h1, h2]
  exact ⟨⟨_, rfl⟩, rfl, rfl⟩
section
variable {H : Type} {enc : TypeId × Value → H} {P : Program} {w : World} {r : Reach} {b0 base : Nat} {held : Bool}
theorem cell_acts {ts te ti tx : TypeId} {f0 f1 f2 : Field} {n : Nat} {c : Value} {y : DataW H × List MemPlace} (hs : P.underlying ts = some (.slice te)) (he : P.underlying te = some (.struct #[f0, f1, f2])) (h0 : f0.type = ti ∧ f0.offset = 0) (h1 : f1.type = tx ∧ f1.offset = 1) (h2 : f2.type = tx ∧ f2.offset = 2)
    (hi : P.underlying ti = some (.int .i64)) (hx : P.underlying tx = some .string) (ce : P.cellsOf te = 3) (ci : P.cellsOf ti = 1) (cx : P.cellsOf tx = 1) (k : DataW.trod enc P w base (fun _ => true) held n ts [c] = some y) (hsp : ∀ x l m, c = .slice (some x) l m → x.spot = none) :
    ∃ a len cap V, c = .slice a len cap ∧ ActRow w a len cap V := by
  rcases Go.Deep.open_slice hs k with ⟨hc, _⟩ | ⟨x, l, m, q, n', D, Pl, hc, _, hl, _, hq, _, hcell⟩
  · obtain rfl : c = .slice none 0 0 := by simpa using hc
    exact ⟨none, 0, 0, fun _ => .bool true, rfl, .inl ⟨rfl, rfl, rfl⟩⟩
  · obtain rfl : c = .slice (some x) l m := by simpa using hc
    rw [if_pos rfl] at hq
    subst hq
    have each : ∀ i, i < q → ∃ p : Int × ByteArray × ByteArray, w.cell? (x.add (i * 3)) = some (.int .i64 p.1) ∧ w.cell? (x.add (i * 3 + 1)) = some (.string p.2.1) ∧ w.cell? (x.add (i * 3 + 2)) = some (.string p.2.2) := by
      intro i hiq
      obtain ⟨cs', g1, g2⟩ := hcell i hiq
      rw [ce] at g1
      obtain ⟨_, hlen, hcl⟩ := World.cells?_some g1
      obtain ⟨xs, k', _, _, _, hxl, hf⟩ := DataW.trod_struct he g2
      match xs, hxl, cs', hlen with
      | [y0, y1, y2], _, [v0, v1, v2], _ =>
        have k0 := hf 0 f0 rfl
        have k1 := hf 1 f1 rfl
        have k2 := hf 2 f2 rfl
        rw [h0.1, h0.2, ci] at k0
        rw [h1.1, h1.2, cx] at k1
        rw [h2.1, h2.2, cx] at k2
        obtain ⟨z, rfl⟩ := cell_int hi (show DataW.trod enc P w base (fun _ => true) held k' ti [v0] = some y0 from k0)
        obtain ⟨s, rfl⟩ := cell_str hx (show DataW.trod enc P w base (fun _ => true) held k' tx [v1] = some y1 from k1)
        obtain ⟨t, rfl⟩ := cell_str hx (show DataW.trod enc P w base (fun _ => true) held k' tx [v2] = some y2 from k2)
        have e0 := hcl 0 (by omega)
        have e1 := hcl 1 (by omega)
        have e2 := hcl 2 (by omega)
        rw [Go.Deep.add_add] at e0 e1 e2
        exact ⟨(z, s, t), by simpa using e0, by simpa using e1, by simpa using e2⟩
    obtain ⟨p, hp⟩ := Go.Deep.choose_lt each
    refine ⟨some x, l, q, actV p, rfl, .inr ⟨x, rfl, hsp _ _ _ rfl, hl, fun j hj => ?_, actV_ok p q⟩⟩
    obtain ⟨e0, e1, e2⟩ := hp (j / 3) (by omega)
    obtain ⟨v0, v1, v2⟩ := actV_at p (j / 3)
    rcases (show j = j / 3 * 3 ∨ j = j / 3 * 3 + 1 ∨ j = j / 3 * 3 + 2 by omega) with c | c | c
    · rw [c, v0]; exact e0
    · rw [c, v1]; exact e1
    · rw [c, v2]; exact e2
end
end Go.Proofs.YtoooohgejkebjaaGreatDoor.Aes


/-
  ReferralHosts: behind the first loop; the law.
-/
namespace Go.Proofs.YtoooohgejkebjaaGreatDoor.Aes
open Go.Sim Go.WideShapes Go.ChangeShapes
open Go.Proofs
open Go.RowKit
variable {α : Type}

set_option maxRecDepth 1000000
section
variable {V : Nat → Value} {N n : Nat} {k : Nat} {many : Int}
def TurnOK (V : Nat → Value) (N n k : Nat) (many : Int) (a : LwA) (J : Junk) : Prop := TurnsTo cfgHL 1 (lwK k many V N n) (fun a' => lwQ n many a' ∧ lwMu n a' < lwMu n a) lwD1 ((lwK k many V N n a).fill J)
theorem hnQ_all {es : List MapEntry} {c : Nat} {W : Nat → Value} (h : EndOK es c W) {j : Nat} (hj : j < es.length) {q : List Prop} (hq : ∀ p ∈ q, p) : ∀ p ∈ hnQ W (rowP (ruLs es)) es.length j q, p := by
  obtain ⟨h1, h2, h3, h4, h5⟩ := h
  have hl : (ruLs es).length = es.length := h3.len
  obtain ⟨r1, r2⟩ := row_ok (ruLs es)
  rw [hl] at r1 r2
  have e : prAt W j = prAt (rowP (ruLs es)) j := by
    have a1 : (prL W es.length)[j]'(by rw [prL_length]; exact hj) = prAt W j := prL_get _
    have a2 : (prL (rowP (ruLs es)) es.length)[j]'(by rw [prL_length]; exact hj) = prAt (rowP (ruLs es)) j := prL_get _
    rw [← a1, ← a2]
    congr 1
    rw [h5, r2]
  refine all_cons (decide_eq_true (by omega)) (all_cons ⟨by omega, by omega⟩ (all_cons (by omega) (all_cons (fit2_of r1 hj) (all_cons (decide_eq_false (by omega)) (all_cons ⟨by omega, by omega⟩ (all_cons (by omega) (all_cons (fit2_of h4 hj) (all_cons ?_ (all_cons ⟨by omega, by omega⟩ hq)))))))))
  have e1 : ∀ (X : Nat → Value), vStr (X (0 + j * 2 + 0)) = (prAt X j).1 ∧ vStr (X (0 + j * 2 + 1)) = (prAt X j).2 := fun X => by unfold prAt; rw [Nat.zero_add, Nat.add_zero]; exact ⟨rfl, rfl⟩
  rw [(e1 W).1, (e1 W).2, (e1 _).1, (e1 _).2, e]
  simp
theorem turn_b (es : List MapEntry) (c : Nat) (es' : List MapEntry) (c' : Nat) (W : Nat → Value) (i : Nat) (J : Junk) (h : EndOK es c W) (hi : i ≤ es.length) : TurnOK V N n k many (.b es c es' c' W i) J := by
  have h0 := h
  obtain ⟨h1, h2, h3, h4, h5⟩ := h
  by_cases hin : i < es.length
  · have go : ∀ u, u < 3 → (∀ p ∈ cV (hmX W i) es' u, p) → TurnOK V N n k many (.b es c es' c' W i) J := fun u hu hp => by
      refine to_turn (names := n9') (N := 9) (M := hmC V N n k many es c (hmK es' W i u) c' W (rowP (ruLs es)) es.length (i + 1)) (some (1, 3)) 20000 (.b es c (hmK es' W i u) c' W (i + 1)) ⟨⟨h0, hin⟩, by show 2000000 + (es.length - (i + 1)) < 2000000 + (es.length - i); omega⟩ (fun z => mapN_at0 (hm_turn V N n k many J z es c es' c' W (rowP (ruLs es)) es.length i) hu) (hm_names V N n k many es c W (rowP (ruLs es)) es.length (i + 1) (hmK es' W i u) c' W es.length _ _ (i + 1)) ?_
      exact all_cons (decide_eq_true (by omega)) (all_cons ⟨by omega, by omega⟩ (all_cons (by omega) (all_cons (fit2_of h4 hin).1 (app_all hp (all_cons ⟨by omega, by omega⟩ all_nil)))))
    cases hx : sfBo (hmX W i) with
    | false => exact go 0 (by omega) (all_cons hx all_nil)
    | true =>
      cases hh : hasK es' (.string (hmX W i)) with
      | false => exact go 1 (by omega) (all_cons hx (all_cons hh all_nil))
      | true => exact go 2 (by omega) (all_cons hx (all_cons hh all_nil))
  · have e : i = es.length := by omega
    refine to_turnM (ms := [(0, 7, .int .i64 (.lit 0))]) (es := [(10, .ent (.own (.lst [.int .i64 (.lit 0)]) true 3))]) (names := n13) (N := 13) (M := hnC V N n k many es c es' c' W (rowP (ruLs es)) es.length i false 0) (some (2, 2)) 20000 (.n es c es' c' W i 0) ⟨⟨h0, Nat.zero_le _, .inl rfl⟩, by show 1000000 + (es.length - 0) < 2000000 + (es.length - i); omega⟩ (fun z => hm_end V N n k many J z es c es' c' W (rowP (ruLs es)) es.length i) (hn_names V N n k many es c W (rowP (ruLs es)) es.length i 0 es' c' 0) (fun q hq p u hp hu => ?_) (fun e he E0 hE0 => ?_) (all_cons (decide_eq_false (by omega)) all_nil)
    · obtain rfl : q = (0, 7, .int .i64 (.lit 0)) := by simpa using hq
      exact tmp_set (hn_tmp V N n k many es c W (rowP (ruLs es)) es.length i 0 es' c') hp hu (int_impS rfl)
    · obtain rfl := List.mem_singleton.1 he
      have hE0 : some (HP.ent (.own (.lst [.int .i64 (.sym (0 : Nat))]) true 3)) = some E0 := hE0
      cases hE0
      exact ⟨_, rfl, fun _ _ h => h⟩
theorem mx_case {j m : Nat} (h0 : j = 0 ∨ (j : Int) < many) (h : ((j : Int) + 1 ≥ many ∧ j < m) ∨ (j = m ∧ 1 ≤ m)) : ∃ b, mnQ many m b ∧ neQ many m (if (j : Int) + 1 ≥ many ∧ j < m then (j : Int) + 1 else (j : Int)) b := by
  refine ⟨decide (mxM many < (m : Int)), rfl, ?_⟩
  unfold neQ
  refine bneF ?_
  by_cases c : mxM many < (m : Int)
  · rw [decide_eq_true c]
    show _ = mxM many
    unfold mxM at c ⊢
    split at c <;> split <;> rcases h with h | h <;> (first | omega | (split <;> omega))
  · rw [decide_eq_false c]
    show _ = (m : Int)
    unfold mxM at c
    split at c <;> split <;> rcases h with h | h <;> omega
theorem p0_ok (es : List MapEntry) (c : Nat) (es' : List MapEntry) (c' : Nat) (W : Nat → Value) (i : Nat) (f : Nat → Nat) : ∀ e ∈ p0, ∀ E0, (lwK k many V N n (.p es c es' c' W i 0)).heap[e.1]? = some E0 → ImpE f (some e.2) E0 := fun e he E0 hE0 => by
  obtain rfl := List.mem_singleton.1 he
  have hE0 : some (HP.ent (.own (.lst [.int .i64 (.sym (0 : Nat))]) true 3)) = some E0 := hE0
  cases hE0
  exact ⟨_, rfl, fun _ _ h => h⟩
theorem turn_n (es : List MapEntry) (c : Nat) (es' : List MapEntry) (c' : Nat) (W : Nat → Value) (i j : Nat) (J : Junk) (h : EndOK es c W) (hj : j ≤ es.length) (hm : j = 0 ∨ (j : Int) < many) : TurnOK V N n k many (.n es c es' c' W i j) J := by
  have hpos := h.2.1
  have h30 := h.1
  have hmu : lwMu n (.p es c es' c' W i 0) < lwMu n (.n es c es' c' W i j) := by show es.length - 0 < 1000000 + (es.length - j); omega
  by_cases hin : j < es.length
  · by_cases hc : (j : Int) + 1 ≥ many
    · obtain ⟨b, hb1, hb2⟩ := mx_case (m := es.length) hm (.inl ⟨hc, hin⟩)
      rw [if_pos ⟨hc, hin⟩] at hb2
      refine to_turnM (ms := [(0, 7, .int .i64 (.lit 0))]) (es := p0) (names := n18) (N := 18) (M := hpC V N n k many es c es' c' W (rowP (ruLs es)) es.length i 0) (some (2, 2)) 20000 (.p es c es' c' W i 0) ⟨⟨h, Nat.zero_le _⟩, hmu⟩ (fun z => hn_brk V N n k many J z es c es' c' W (rowP (ruLs es)) es.length i j b) (hp_names V N n k many es c W (rowP (ruLs es)) es.length i 0 es' c' 0) (fun q hq p u hp hu => ?_) (p0_ok es c es' c' W i _) (hnQ_all h hin (all_cons (decide_eq_true hc) (all_cons hb1 (all_cons hb2 all_nil))))
      obtain rfl : q = (0, 7, .int .i64 (.lit 0)) := by simpa using hq
      exact tmp_set (hp_tmp V N n k many es c W (rowP (ruLs es)) es.length i 0 es' c') hp hu (int_impS rfl)
    · exact to_turn (names := n13) (N := 14) (M := hnC V N n k many es c es' c' W (rowP (ruLs es)) es.length i false j) (some (2, 2)) 20000 (.n es c es' c' W i (j + 1)) ⟨⟨h, hin, .inr (by omega)⟩, by show 1000000 + (es.length - (j + 1)) < 1000000 + (es.length - j); omega⟩ (fun z => hn_turn V N n k many J z es c es' c' W (rowP (ruLs es)) es.length i j) (hn_names V N n k many es c W (rowP (ruLs es)) es.length i j es' c' (j + 1)) (hnQ_all h hin (all_cons (decide_eq_false hc) (all_cons ⟨by omega, by omega⟩ all_nil)))
  · have e : j = es.length := by omega
    obtain ⟨b, hb1, hb2⟩ := mx_case (m := es.length) hm (.inr ⟨e, hpos⟩)
    rw [if_neg (by omega)] at hb2
    refine to_turnM (ms := [(0, 7, .int .i64 (.lit 0))]) (es := p0) (names := n17) (N := 17) (M := hpC V N n k many es c es' c' W (rowP (ruLs es)) es.length i 0) (some (2, 2)) 20000 (.p es c es' c' W i 0) ⟨⟨h, Nat.zero_le _⟩, hmu⟩ (fun z => hn_end V N n k many J z es c es' c' W (rowP (ruLs es)) es.length i j b) (hp_names17 V N n k many es c W (rowP (ruLs es)) es.length i 0 es' c' 0) (fun q hq p u hp hu => ?_) (p0_ok es c es' c' W i _) (all_cons (decide_eq_false (by omega)) (all_cons hb1 (all_cons hb2 all_nil)))
    obtain rfl : q = (0, 7, .int .i64 (.lit 0)) := by simpa using hq
    exact tmp_set (hp_tmp V N n k many es c W (rowP (ruLs es)) es.length i 0 es' c') hp hu (int_impS rfl)
theorem turn_p (es : List MapEntry) (c : Nat) (es' : List MapEntry) (c' : Nat) (W : Nat → Value) (i j : Nat) (J : Junk) (h : EndOK es c W) (hj : j ≤ es.length) : TurnOK V N n k many (.p es c es' c' W i j) J := by
  have h30 := h.1
  by_cases hin : j < es.length
  · exact to_turn (names := n18) (N := 19) (M := hpC V N n k many es c es' c' W (rowP (ruLs es)) es.length i j) (some (2, 2)) 20000 (.p es c es' c' W i (j + 1)) ⟨⟨h, hin⟩, by show es.length - (j + 1) < es.length - j; omega⟩ (fun z => hp_turn V N n k many J z es c es' c' W (rowP (ruLs es)) es.length i j) (hp_names V N n k many es c W (rowP (ruLs es)) es.length i j es' c' (j + 1)) (hnQ_all h hin (all_cons ⟨by omega, by omega⟩ all_nil))
  · have e : j = es.length := by omega
    exact to_end none 20000 (fun z => hp_end V N n k many J z es c es' c' W (rowP (ruLs es)) es.length i j) (all_cons (decide_eq_false (by omega)) (all_cons (bneF (by omega)) all_nil)) fun H _ => rfl
theorem mn0 : mnQ many 0 false := decide_eq_false (by unfold mxM; split <;> omega)
/-- behind the first loop -/
theorem turn_a {s : HlS} {l : List Pr} (J : Junk) (hn : n ≤ 30) (hi : s.i = n) (hf : s.fit l) : TurnOK V N n k many (.a s) J := by
  obtain ⟨mn, re, es, c, W, m, i⟩ := s
  obtain rfl : i = n := hi
  obtain ⟨h1, h2, h3, h4, h5⟩ := hf
  have hin : decide ((i : Int) < (i : Int)) = false := decide_eq_false (by omega)
  have hla : sfQ laS true := sfBo_iff.2 la_suf
  have hlr := rlQ_ok la_rlm
  cases mn with
  | true =>
    obtain ⟨rfl, rfl⟩ : l = [] ∧ re = true := h4
    exact to_end none 20000 (fun z => hl_e0 V N i k many J z es c W m i) (all_cons hin (all_cons hin (all_cons hla (all_cons hlr (all_cons rfl (all_cons mn0 (all_cons rfl (all_cons rfl all_nil)))))))) fun H _ => rfl
  | false =>
    have hM : HostOK es c l := h4
    have hls := ruLs_host hM
    have hlen := hM.len
    have h2 : l.length ≤ i := h2
    have hM' : HostOK es c (ruLs es) := by rw [hls]; exact hM
    by_cases he : l = []
    · subst he
      obtain rfl : re = true := by
        cases re with
        | true => rfl
        | false => exact absurd rfl (h5 rfl)
      obtain rfl : es = [] := List.length_eq_zero_iff.1 (by rw [← hlen]; rfl)
      exact to_end none 20000 (fun z => hl_e1 V N i k many J z [] c W m i) (app_all (l := hmI i [] c i true) (all_cons hin (all_cons hin (all_cons ⟨hM', by simp⟩ (all_cons rfl all_nil)))) (app_all (l := hmL [] false) (all_cons hla (all_cons hlr (all_cons rfl (all_cons rfl (all_cons rfl all_nil))))) (all_cons rfl (all_cons mn0 (all_cons rfl (all_cons rfl all_nil)))))) fun H _ => rfl
    · obtain rfl : re = false := by
        cases re with
        | false => rfl
        | true => exact absurd (show l = [] from h1) he
      obtain ⟨r1, r2⟩ : PrV W m ∧ prL W m = l := h1
      obtain rfl : m = es.length := by rw [← hlen, ← r2, prL_length]
      have hpos : 1 ≤ es.length := by rw [← hlen]; exact List.length_pos_iff.2 he
      have hend : EndOK es c W := ⟨by omega, hpos, hM', r1, by rw [hls]; exact r2⟩
      have hnil : nilE es = false := by
        unfold nilE
        cases es with
        | nil => simp at hpos
        | cons => rfl
      obtain ⟨b, hb⟩ : ∃ b, ∀ p ∈ hmL es b, p := by
        cases hh : hasK es (.string laS) with
        | true => exact ⟨true, all_cons hla (all_cons hlr (all_cons hh all_nil))⟩
        | false => exact ⟨false, all_cons hla (all_cons hlr (all_cons hh (all_cons (decide_eq_false (by omega)) (all_cons hh all_nil))))⟩
      refine to_turnM (ms := [(0, 10, .int .i64 (.lit 0))]) (es := []) (names := n9') (N := 9) (M := hmC V N i k many es c (hmE es c b) (hmc c b) W (rowP (ruLs es)) es.length 0) (some (1, 3)) 20000 (.b es c (hmE es c b) (hmc c b) W 0) ⟨⟨hend, Nat.zero_le _⟩, by show 2000000 + (es.length - 0) < 3000000 + (i - i); omega⟩ (fun z => hm_init V N i k many J z es c W i b) (hm_names V N i k many es c W (rowP (ruLs es)) es.length 0 _ _ W es.length _ _ 0) (fun q hq p u hp hu => ?_) (fun e he => by cases he) (app_all (l := hmI i es c i false) (all_cons hin (all_cons hin (all_cons ⟨hM', by omega⟩ (all_cons hnil all_nil)))) hb)
      obtain rfl : q = (0, 10, .int .i64 (.lit 0)) := by simpa using hq
      exact tmp_set (hm_tmp V N i k many es c W (rowP (ruLs es)) es.length 0 _ _) hp hu (int_impS rfl)
theorem third3 (N : Nat) : N * 3 / 3 = N := by omega
theorem hl_runs (hN : n ≤ N) (hz : (n : Int) ≤ 30 → (⟨V, N, n⟩ : Pw).okA) : Runs cfgHL 3 [slP 0 n k, .int .i64 (.sym many)] [rwA V N] lwD1 := by
  have hsh : ((⟨V, N * 3 / 3, n⟩ : Pw).n : Int) ≤ 30 → (⟨V, N * 3 / 3, n⟩ : Pw).okA ∧ (⟨V, N * 3 / 3, n⟩ : Pw).n ≤ 1000000 := fun h => by
    have h : (n : Int) ≤ 30 := h
    rw [third3]
    exact ⟨hz h, by show n ≤ _; omega⟩
  by_cases hp : shP ⟨V, N * 3 / 3, n⟩ 30
  · have hn : (n : Int) ≤ 30 := hp.1
    have hn' : n ≤ 30 := by omega
    have hV : ActV V n := (hz hn).2
    have hs : ∀ i, i < n → (aFr V i).size ≤ 100 ∧ (aTo V i).size ≤ 60 := hp.2
    refine runs_by cfgHLOK (lwK k many V N n) (lwQ n many) (lwMu n) (fun g nm hg => by cases hg) ?_ fun a ha J => ?_
    · refine to_startM (M := hlC V N n k many true true [] 0 (lsV []) 0 0) (names := nm6) (some (1, 3)) 20000 (.a ⟨true, true, [], 0, lsV [], 0, 0⟩) ⟨Nat.zero_le _, [], rfl, Nat.zero_le _, fun p hp => (by cases hp), ⟨rfl, rfl⟩, fun h => (by cases h)⟩ (fun z => hl_init V N n k many z [] 0 (lsV []) 0) (nm_6 V N n k many _ _ _ _ _ _ _ _ _ _) (fun q hq p u hp hu => ?_) (fun e he E0 hE0 => ?_)
        (all_cons (by rw [third3]) (all_cons hsh (all_cons (cB_ok hp) all_nil)))
      · obtain rfl : q = (0, 8, .int .i64 (.lit 0)) := by simpa using hq
        exact tmp_set (hl_tmp V N n k many true [] 0 (lsV []) 0 0 true) hp hu (int_impS rfl)
      · obtain rfl := List.mem_singleton.1 he
        have hE0 : (hlC V N n k many true true [] 0 (lsV []) 0 0).heap[5]? = some E0 := hE0
        rw [hl_cell] at hE0
        cases hE0
        exact ⟨_, rfl, fun _ _ h => h⟩
    · cases a with
      | a s =>
        obtain ⟨hi, l, hf⟩ : s.i ≤ n ∧ ∃ l, s.fit l := ha
        by_cases hin : s.i < n
        · cases hm : s.mn with
          | true => exact round_none J hN hn' hV hs hin hf hm
          | false => exact round_some J hN hn' hV hs hin hf hm
        · exact turn_a J hn' (by omega) hf
      | b es c es' c' W i => exact turn_b es c es' c' W i J ha.1 ha.2
      | n es c es' c' W i j => exact turn_n es c es' c' W i j J ha.1 ha.2.1 ha.2.2
      | p es c es' c' W i j => exact turn_p es c es' c' W i j J ha.1 ha.2
  · exact runs_of (c := cfgHL) cfgHLOK (outO_ob (hl_few V N n k many) (all_cons (by rw [third3]) (all_cons hsh (all_cons (cB_no hp) all_nil))) fun H2 _ => rfl)
end
theorem hosts_law {w : World} {a : Option Addr} {len cap : Nat} {V : Nat → Value} (many : Int) (hr : ActRow w a len cap V) :
    Calls Tryz.prog 3 #[.slice a len cap, .int .i64 many] w fun e w' => e = .returned (.bool true) ∧ Below w.heap.size w w' := by
  rcases hr with ⟨rfl, rfl, rfl⟩ | ⟨x, rfl, hs, hl, hx, hV⟩
  · have ha : SV.denL (fun _ => none) [.nilSlice, .int .i64 (.sym many)] = some [.slice none 0 0, .int .i64 many] := rfl
    exact law_by cfgHLOK 20000 (HeapRel.start _ _ w) (GlobRel.none _) ha [false, true, false, false] (hlz_nil many) (all_cons (cB_ok (by omega)) (all_cons (sfBo_iff.2 la_suf) (all_cons (rlQ_ok la_rlm) (all_cons mn0 all_nil))))
  · obtain ⟨β, hH, _, hd⟩ := start_raw (HeapRel.start Tryz.prog (fun _ => False) w) hs hl hx
    have ha : SV.denL β [slP 0 len cap, .int .i64 (.sym many)] = some [.slice (some x) len cap, .int .i64 many] := denL_cons.2 ⟨_, _, hd, rfl, rfl⟩
    exact law_runs hH (GlobRel.none _) ha (hl_runs (k := cap) (many := many) (N := cap) hl fun _ => ⟨hl, fun i hi => hV i (Nat.lt_of_lt_of_le hi hl)⟩)
end Go.Proofs.YtoooohgejkebjaaGreatDoor.Aes

