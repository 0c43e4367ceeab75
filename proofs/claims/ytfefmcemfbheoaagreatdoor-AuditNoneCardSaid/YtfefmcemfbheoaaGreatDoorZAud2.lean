/-
  Audits: the chapter's examples hold; principals with few and short strings.
-/
import Derived.Test.YtfefmcemfbheoaaGreatDoorPk5
namespace Go.Proofs.YtfefmcemfbheoaaGreatDoor.Aes
open Go.Sim
open Go.Proofs
variable {α : Type}

set_option maxRecDepth 1000000
theorem det_ends {o : Option (SV × List SO)} {v : SV} (h : (Option.rec none (fun r => some r.1) o : Option SV) = some v) : ∃ H, o = some (v, H) := by
  cases o with
  | none => cases h
  | some r => cases h; exact ⟨r.2, rfl⟩
noncomputable def fstO (o : Option (SV × List SO)) : Option SV := Option.rec none (fun r => some r.1) o
theorem kn49_run : fstO (detT (callSim cfgU1 100000 5 [] [])) = some (.bool (.lit true)) := by kernel_rfl
noncomputable def arg0 (args : List SV) (r : R α) : R α := List.rec (motive := fun _ => R α) r (fun _ _ _ => .stuck 700) args
theorem arg0_sat {args : List SV} {r : R α} {φ : α → Prop} (h : args = [] → r.Sat φ) : (arg0 args r).Sat φ := by
  cases args with
  | nil => exact h rfl
  | cons => trivial
noncomputable def trueS : Summ := fun args _ _ => arg0 args (.ok ⟨.bool (.lit true), [], []⟩)
theorem exOf {g : FuncId → Option Summ} (hc : CfgOK (cfgOf g)) {n : Nat} {f : FuncId} (hr : fstO (detT (callSim (cfgOf g) n f [] [])) = some (.bool (.lit true))) : SumOK Tryz.prog f trueS := by
  intro glob O w0 β H w base args vs hH hG ha
  refine arg0_sat fun hv => ?_
  rw [hv] at ha
  obtain ⟨H', hd⟩ := det_ends hr
  show SumSem Tryz.prog H β w base f vs _
  exact sum_runQ hc n hH ⟨[], [], []⟩ (by intro g j hg; cases hg) ha (fits0 rfl).q [] (by simp) (by simp) ((detT_ob hd).mono fun v H h => by
    obtain ⟨rfl, rfl⟩ := h
    exact ⟨SV.Imp.refl _, rfl, trivial, trivial⟩)
theorem kn49OK : SumOK Tryz.prog 5 trueS := exOf cfgU1OK kn49_run

theorem agg_imp {l m : List SV} (h : SV.ImpL l m) : (SV.agg l).Imp (.agg m) := fun β x hx => by
  simp only [SV.den] at hx ⊢
  cases hl : SV.denL β l with
  | none => rw [hl] at hx; cases hx
  | some vs => rw [h β _ hl]; rw [hl] at hx; exact hx
/-- a principal's value -/
noncomputable def prnV (v : SV) : Option (Option (Nat × Nat × Nat) × SStr) := match v with
  | .agg [c, .str r] => optC (slS c) none fun o => some (o, r)
  | _ => none
theorem prnV_spec {v : SV} {p : Option (Nat × Nat × Nat) × SStr} (h : prnV v = some p) : ∃ c, v = .agg [c, .str p.2] ∧ slS c = some p.1 := by
  unfold prnV at h
  split at h
  · rename_i c r
    cases hs : slS c with
    | none => rw [hs] at h; cases h
    | some o => rw [hs] at h; cases h; exact ⟨c, rfl, hs⟩
  · cases h
noncomputable def bothF (t : Tree) : List Prop × Bool := (allF t True, goodT t)
/-- few and short? -/
noncomputable def shB (S : Nat → ByteArray) (n : Nat) (r : ByteArray) : Bool := @decide ((∀ i, i < n → i < 7 → (S i).size ≤ 60) ∧ n ≤ 6 ∧ r.size ≤ 60) (Classical.propDecidable _)
theorem shB_true {S : Nat → ByteArray} {n : Nat} {r : ByteArray} (h : (∀ i, i < n → i < 7 → (S i).size ≤ 60) ∧ n ≤ 6 ∧ r.size ≤ 60) : shB S n r = true := @decide_eq_true _ (Classical.propDecidable _) h
theorem shB_false {S : Nat → ByteArray} {n : Nat} {r : ByteArray} (h : ¬ ((∀ i, i < n → i < 7 → (S i).size ≤ 60) ∧ n ≤ 6 ∧ r.size ≤ 60)) : shB S n r = false := @decide_eq_false _ (Classical.propDecidable _) h
noncomputable def shA (n c : Nat) (r : ByteArray) : List SV := [.agg [.slice ⟨0, .lit 0⟩ (.sym n) (.sym c), .str (.sym r)]]
section
variable (S : Nat → ByteArray) (k n c : Nat) (r : ByteArray)
noncomputable def shS0 : SS := stopOf (callSim ((cfgOf fun _ => none).at (some (1, 3))) 4000 13 (shA n c r) [rowSt S k]) []
noncomputable def shC (i : Nat) : Cut := ⟨bareFs (shS0 S k n c r).frames [[(1, .ptr ⟨1, .lit 0⟩), (3, .int .i64 (.sym i))]], [.ent (rowSt S k), .ent (.own (.lst [.slice ⟨0, .lit 0⟩ (.sym n) (.sym c), .str (.sym r)]) true 25)]⟩
theorem sh_init (z : Nat → Nat → Nat) : outL [] (shC S k n c r 0) [0, 1] (callSim ((cfgOf fun _ => none).at (some (1, 3))) 4000 13 (shA n c r) [rowSt S k]) [] z = ([], some (.inr (modSeen [(0, 3, .int .i64 (.lit 0))] [] (seenC [0, 1] 2 (shC S k n c r 0))))) := by kernel_rfl
noncomputable def shIn (i : Nat) (q : List Prop) : List Prop := (decide ((i : Int) < (n : Int)) = true) :: (decide ((i : Int) < 7) = true) :: ((0 : Int) ≤ (i : Int) ∧ (i : Int) < (n : Int)) :: (0 + i * 1 < k) :: q
theorem sh_turn (i : Nat) (J : Junk) (z : Nat → Nat → Nat) : outL [] (shC S k n c r i) [0, 1] (sim1 ((cfgOf fun _ => none).at (some (1, 3))) 4000 ((shC S k n c r i).fill J)) [true, true, false] z =
    (shIn k n i [decide (((S (0 + i * 1)).size : Int) > 60) = false, inI64 ((i : Int) + 1)], some (.inr (seenC [0, 1] 2 (shC S k n c r (i + 1))))) := by kernel_rfl
theorem sh_fail (i : Nat) (J : Junk) (z : Nat → Nat → Nat) : outL [] (shC S k n c r i) [0, 1] (sim1 ((cfgOf fun _ => none).at none) 4000 ((shC S k n c r i).fill J)) [true, true, true] z =
    (shIn k n i [decide (((S (0 + i * 1)).size : Int) > 60) = true], some (.inl (.bool (.lit false), []))) := by kernel_rfl
theorem sh_end1 (i : Nat) (J : Junk) (z : Nat → Nat → Nat) : outL [] (shC S k n c r i) [0, 1] (sim1 ((cfgOf fun _ => none).at none) 4000 ((shC S k n c r i).fill J)) [true, false, false, false, false, false, false] z =
    ((decide ((i : Int) < (n : Int)) = true) :: (decide ((i : Int) < 7) = false) :: repN (decide ((n : Int) ≤ 6) = false) 5, some (.inl (.bool (.lit false), []))) := by kernel_rfl
theorem sh_end2 (i : Nat) (J : Junk) (z : Nat → Nat → Nat) : outL [] (shC S k n c r i) [0, 1] (sim1 ((cfgOf fun _ => none).at none) 4000 ((shC S k n c r i).fill J)) [false, false, false, true] z =
    (app (repN (decide ((i : Int) < (n : Int)) = false) 3) [decide ((n : Int) ≤ 6) = true], some (.inl (.bool (.sym (decide ((r.size : Int) ≤ 60))), []))) := by kernel_rfl
theorem sh_end3 (i : Nat) (J : Junk) (z : Nat → Nat → Nat) : outL [] (shC S k n c r i) [0, 1] (sim1 ((cfgOf fun _ => none).at none) 4000 ((shC S k n c r i).fill J)) [false, false, false, false, false, false, false, false] z =
    (app (repN (decide ((i : Int) < (n : Int)) = false) 3) (repN (decide ((n : Int) ≤ 6) = false) 5), some (.inl (.bool (.lit false), []))) := by kernel_rfl
theorem sh_names (i j : Nat) : boolC (namesOK 1 [0, 1] (shC S k n c r i) (shC S k n c r j)) (allN noLoopE (shC S k n c r j).heap) false = true := by kernel_rfl
theorem sh_tmp (i : Nat) : (((shC S k n c r i).frames[0]?).bind fun p => p.tmps[3]?) = some (some (.int .i64 (.sym i))) := by kernel_rfl
theorem sh_nil : bothF (callSim (cfgOf fun _ => none) 4000 13 [.agg [.nilSlice, .str (.sym r)]] []) = ([], true) := by kernel_rfl
end
theorem rep_all {p : Prop} (h : p) (n : Nat) : ∀ q ∈ repN p n, q := by
  intro q hq
  rw [repN_eq] at hq
  rw [List.eq_of_mem_replicate hq]
  exact h
theorem app_all {l m : List Prop} (h : ∀ p ∈ l, p) (h' : ∀ p ∈ m, p) : ∀ p ∈ app l m, p := by
  intro p hp
  rw [app_eq] at hp
  rcases List.mem_append.1 hp with hp | hp
  · exact h p hp
  · exact h' p hp
theorem tmp_set {C : Cut} {i j : Nat} {v : SV} (h : ((C.frames[i]?).bind fun p => p.tmps[j]?) = some (some v)) {p : SP} {u : Option SV} (hp : C.frames[i]? = some p) (hu : p.tmps[j]? = some u) {w : SV} {f : Nat → Nat} (hi : w.Imp (v.ren f)) : ∃ x, u = some x ∧ w.Imp (x.ren f) := by
  rw [hp] at h
  simp only [Option.bind_some, hu, Option.some.injEq] at h
  exact ⟨v, h, hi⟩
theorem sh_runs (S : Nat → ByteArray) {k n : Nat} (c : Nat) (r : ByteArray) (hn : n ≤ k) : Runs (cfgOf fun _ => none) 13 (shA n c r) [rowSt S k] fun v _ => ∃ b, v = .bool b ∧ b.den = shB S n r := by
  refine runs_by cfg0OK (shC S k n c r) (fun i => i ≤ 7 ∧ i ≤ n ∧ ∀ j, j < i → (S j).size ≤ 60) (fun i => 7 - i) (fun g nm hg => by cases hg) ?_ fun i hi J => ?_
  · refine to_startM (some (1, 3)) 4000 0 ⟨by omega, by omega, fun j hj => by omega⟩ (sh_init S k n c r) (sh_names S k n c r 0 0) (fun m hm p u hp hu => ?_) (by simp) all_nil
    obtain rfl : m = (0, 3, .int .i64 (.lit 0)) := by simpa using hm
    exact tmp_set (sh_tmp S k n c r 0) hp hu (int_impS rfl)
  · obtain ⟨h1, h2, h3⟩ := hi
    have hin : ∀ q : List Prop, i < n → i < 7 → (∀ p ∈ q, p) → ∀ p ∈ shIn k n i q, p := fun q a b h => all_cons (decide_eq_true (by omega)) (all_cons (decide_eq_true (by omega)) (all_cons ⟨by omega, by omega⟩ (all_cons (by omega) h)))
    by_cases hin1 : i < n
    · by_cases h7 : i < 7
      · by_cases hs : (S i).size ≤ 60
        · refine to_turn (some (1, 3)) 4000 (i + 1) ⟨⟨by omega, by omega, fun j hj => ?_⟩, by omega⟩ (sh_turn S k n c r i J) (sh_names S k n c r i (i + 1)) (hin _ hin1 h7 (all_cons (decide_eq_false (by show ¬ ((S (0 + i * 1)).size : Int) > 60; rw [Nat.mul_one, Nat.zero_add]; omega)) (all_cons ⟨by omega, by omega⟩ all_nil)))
          by_cases hj' : j < i
          · exact h3 j hj'
          · obtain rfl : j = i := by omega
            exact hs
        · refine to_end none 4000 (sh_fail S k n c r i J) (hin _ hin1 h7 (all_cons (decide_eq_true (by show ((S (0 + i * 1)).size : Int) > 60; rw [Nat.mul_one, Nat.zero_add]; omega)) all_nil)) fun H _ => ⟨_, rfl, ?_⟩
          exact (shB_false fun h => hs (h.1 i hin1 h7)).symm
      · refine to_end none 4000 (sh_end1 S k n c r i J) (all_cons (decide_eq_true (by omega)) (all_cons (decide_eq_false (by omega)) (rep_all (decide_eq_false (by omega)) 5))) fun H _ => ⟨_, rfl, ?_⟩
        exact (shB_false fun h => by omega).symm
    · have hi' : i = n := by omega
      by_cases h6 : n ≤ 6
      · refine to_end none 4000 (sh_end2 S k n c r i J) (app_all (rep_all (decide_eq_false (by omega)) 3) (all_cons (decide_eq_true (by omega)) all_nil)) fun H _ => ⟨_, rfl, ?_⟩
        show decide ((r.size : Int) ≤ 60) = _
        by_cases hr : r.size ≤ 60
        · rw [shB_true ⟨fun j hj _ => h3 j (by omega), h6, hr⟩]
          exact decide_eq_true (by omega)
        · rw [shB_false fun h => hr h.2.2]
          exact decide_eq_false (by omega)
      · refine to_end none 4000 (sh_end3 S k n c r i J) (app_all (rep_all (decide_eq_false (by omega)) 3) (rep_all (decide_eq_false (by omega)) 5)) fun H _ => ⟨_, rfl, ?_⟩
        exact (shB_false fun h => h6 h.2.1).symm
theorem runs_mono {c : Cfg} {f : FuncId} {args : List SV} {H : List SO} {D E : SV → List SO → Prop} (h : Runs c f args H D) (hde : ∀ v H, D v H → E v H) : Runs c f args H E :=
  ⟨h.1, fun O w0 w β vs hH hG ha => (h.2 O w0 w β vs hH hG ha).mono fun e w' ⟨v, H', x, β', h1, h2, h3⟩ => ⟨v, H', x, β', h1, hde _ _ h2, h3⟩⟩
theorem both_ob {t : Tree} {l : List Prop} (h : bothF t = (l, true)) (hl : ∀ p ∈ l, p) : t.Ob (fun v _ => ∃ b, v = .bool b ∧ b.den = valT t) fun _ => False := by
  obtain ⟨h1, h2⟩ := Prod.mk.inj (show (allF t True, goodT t) = (l, true) from h)
  exact allF_ob trivial (by rw [h1]; exact hl) h2
noncomputable def shN (r : ByteArray) : Tree := callSim (cfgOf fun _ => none) 4000 13 [.agg [.nilSlice, .str (.sym r)]] []
noncomputable def shS : Summ := fun args H _ => args1 args fun v => optC (prnV v) (.stuck 7791) fun p => optC p.1 (.ok ⟨.bool (.sym (valT (shN p.2.den))), [], []⟩) fun q => rowStr H q.1 q.2.1 fun S _ => .ok ⟨.bool (.sym (shB S q.2.1 p.2.den)), [], []⟩
theorem shOK : SumOK Tryz.prog 13 shS := by
  intro glob O w0 β H w base args vs hH hG ha
  refine args1_sat fun v hv => optC_only fun p hp => ?_
  obtain ⟨o, r⟩ := p
  obtain ⟨c, rfl, hc⟩ := prnV_spec hp
  rw [hv] at ha
  have ha := impL_cons (agg_imp (impL_cons (.refl _) (impL_cons (str_imp (t := .sym r.den) rfl) impL_nil))) impL_nil _ _ ha
  rcases slS_spec hc with ⟨ho, rfl⟩ | ⟨m, n, k, ho, rfl⟩
  · obtain rfl : o = none := ho
    show SumSem Tryz.prog H β w base _ vs ⟨.bool (.sym (valT (shN r.den))), [], []⟩
    exact sum_runQ cfg0OK 4000 hH ⟨[], [], [.agg [.nilSlice, .str (.sym r.den)]]⟩ (by intro g j hg; cases hg) ha (fits0 rfl).q [] (by simp) (by simp) ((both_ob (sh_nil r.den) (by simp)).mono fun v H h => bool_ends rfl h)
  · obtain rfl : o = some (m, n, k) := ho
    show (rowStr H m n fun S _ => .ok (⟨.bool (.sym (shB S n r.den)), [], []⟩ : SumRes)).Sat (SumSem Tryz.prog H β w base _ vs)
    refine rowStr_sat fun S k' hE hn => ?_
    show SumSem Tryz.prog H β w base _ vs ⟨.bool (.sym (shB S n r.den)), [], []⟩
    refine sum_runsQ (c := cfgOf fun _ => none) hH ⟨[m], [rowSt S k'], shA n k r.den⟩ (by intro g j hg; cases hg) ha ?_ [] (by simp) (by simp) ?_
    · exact Ifc.fitsQ (by simp) rfl ⟨⟨⟨_, hE, _, .inl rfl, (Cells.Imp.refl _).front⟩, fun _ => rfl⟩, trivial⟩
    · exact runs_mono (sh_runs S k r.den hn) fun v H h => bool_ends rfl h
noncomputable def audN0 : List (FuncId × Summ) := [(5, trueS), (13, shS)]
theorem audN0OK : ∀ y ∈ audN0, SumOK Tryz.prog y.1 y.2 := allC kn49OK (all1 shOK)
noncomputable def cfgN0 : Cfg := cfgOf (sumsOf audN0)
theorem cfgN0OK : CfgOK cfgN0 := sumsOf_ok audN0OK
end Go.Proofs.YtfefmcemfbheoaaGreatDoor.Aes

