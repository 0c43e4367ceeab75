/-
  Texts behind one another: the symbolic simulator and what it is told of the program.
-/
import Derived.Test.YtoooohgejkebjaaGreatDoorPk7
import Derived.Test.YtoooohgejkebjaaGreatDoorPk6

/-
  Referrals: what is run az it stands: level over level.
-/
namespace Go.Proofs.YtoooohgejkebjaaGreatDoor.Aes
open Go.Sim
open Go.Proofs
variable {α : Type}

def rfF : List FuncId := [38, 75, 68, 64, 77, 80, 81,
  54, 58, 59, 60, 61, 89, 55, 62, 88, 90, 93, 30, 65, 70, 72, 57,
  32, 27]
noncomputable def rfL (c : Cfg) : List (FuncId × Summ) := (34, ownRun true 7776 c 4000 34) :: roL c rfF rfL0
theorem rfLOK {g : FuncId → Option Summ} (hc : CfgOK (cfgOf g)) : ∀ y ∈ rfL (cfgOf g), SumOK Tryz.prog y.1 y.2 := allC (runOfOK true 7776 hc 4000 _) (roL_ok hc rfL0OK _)
noncomputable def cfgF1 : Cfg := cfgOf (sumsOf (rfL cfgF0))
theorem cfgF1OK : CfgOK cfgF1 := sumsOf_ok (rfLOK cfgF0OK)
noncomputable def cfgF2 : Cfg := cfgOf (sumsOf (rfL cfgF1))
theorem cfgF2OK : CfgOK cfgF2 := sumsOf_ok (rfLOK cfgF1OK)
noncomputable def cfgF3 : Cfg := cfgOf (sumsOf (rfL cfgF2))
theorem cfgF3OK : CfgOK cfgF3 := sumsOf_ok (rfLOK cfgF2OK)
noncomputable def cfgF4 : Cfg := cfgOf (sumsOf (rfL cfgF3))
theorem cfgF4OK : CfgOK cfgF4 := sumsOf_ok (rfLOK cfgF3OK)
end Go.Proofs.YtoooohgejkebjaaGreatDoor.Aes


/-
  The symbolic simulator, fortieth part: values that are written alike; summaries told for one state, whatever is drawn.
-/
namespace Go.Sim
variable {α : Type}

noncomputable def eqA (a b : SA) : Bool := match a, b with
  | ⟨n, .lit i⟩, ⟨m, .lit j⟩ => boolC (Nat.beq n m) (Nat.beq i j) false
  | _, _ => false
theorem eqA_spec {a b : SA} (h : eqA a b = true) : a = b := by
  unfold eqA at h
  split at h
  · obtain ⟨h1, h2⟩ := boolC_two h
    rw [Nat.eq_of_beq_eq_true h1, Nat.eq_of_beq_eq_true h2]
  · cases h
def eqN (a b : SN) : Bool := match a, b with
  | .lit i, .lit j => Nat.beq i j
  | _, _ => false
theorem eqN_spec {a b : SN} (h : eqN a b = true) : a = b := by
  unfold eqN at h
  split at h
  · rw [Nat.eq_of_beq_eq_true h]
  · cases h
noncomputable def eqC (a b : SC) : Bool := match a, b with
  | .lit i, .lit j => Nat.beq i j
  | .rest n i, .rest m j => boolC (Nat.beq n m) (Nat.beq i j) false
  | _, _ => false
theorem eqC_spec {a b : SC} (h : eqC a b = true) : a = b := by
  unfold eqC at h
  split at h
  · rw [Nat.eq_of_beq_eq_true h]
  · obtain ⟨h1, h2⟩ := boolC_two h
    rw [Nat.eq_of_beq_eq_true h1, Nat.eq_of_beq_eq_true h2]
  · cases h
def eqS (a b : SStr) : Bool := match a, b with
  | .lit x, .lit y => x.data.toList == y.data.toList
  | _, _ => false
theorem eqS_spec {a b : SStr} (h : eqS a b = true) : a = b := by
  unfold eqS at h
  split at h
  · rename_i x y
    have h := eq_of_beq h
    obtain ⟨⟨x⟩⟩ := x
    obtain ⟨⟨y⟩⟩ := y
    have h : x = y := h
    rw [h]
  · cases h
def eqB (a b : SB) : Bool := match a, b with
  | .lit x, .lit y => x == y
  | _, _ => false
theorem eqB_spec {a b : SB} (h : eqB a b = true) : a = b := by
  unfold eqB at h
  split at h
  · rw [eq_of_beq h]
  · cases h
noncomputable def eqJ (a b : SI) : Bool := match a, b with
  | .lit x, .lit y => eqI x y
  | _, _ => false
theorem eqJ_spec {a b : SI} (h : eqJ a b = true) : a = b := by
  unfold eqJ at h
  split at h
  · rw [eqI_spec h]
  · cases h
mutual
noncomputable def eqV : SV → SV → Bool
  | .int k a, .int j b => boolC (eqK k j) (eqJ a b) false
  | .bool a, .bool b => eqB a b
  | .str a, .str b => eqS a b
  | .ptr a, .ptr b => eqA a b
  | .nilPtr, .nilPtr => true
  | .slice a l c, .slice b m d => boolC (eqA a b) (boolC (eqN l m) (eqC c d) false) false
  | .nilSlice, .nilSlice => true
  | .map n, .map m => Nat.beq n m
  | .nilMap, .nilMap => true
  | .nilFunc, .nilFunc => true
  | .nilIface, .nilIface => true
  | .agg l, .agg m => eqVL l m
  | .tuple l, .tuple m => eqVL l m
  | _, _ => false
noncomputable def eqVL : List SV → List SV → Bool
  | [], [] => true
  | v :: l, u :: m => boolC (eqV v u) (eqVL l m) false
  | _, _ => false
end
mutual
theorem eqV_spec : (v u : SV) → eqV v u = true → v = u
  | .int k a, u, h => by
    cases u <;> simp only [eqV, Bool.false_eq_true] at h
    obtain ⟨h1, h2⟩ := boolC_two h
    rw [eqK_spec h1, eqJ_spec h2]
  | .bool a, u, h => by
    cases u <;> simp only [eqV, Bool.false_eq_true] at h
    rw [eqB_spec h]
  | .str a, u, h => by
    cases u <;> simp only [eqV, Bool.false_eq_true] at h
    rw [eqS_spec h]
  | .ptr a, u, h => by
    cases u <;> simp only [eqV, Bool.false_eq_true] at h
    rw [eqA_spec h]
  | .nilPtr, u, h => by cases u <;> simp only [eqV, Bool.false_eq_true] at h; rfl
  | .slice a l c, u, h => by
    cases u <;> simp only [eqV, Bool.false_eq_true] at h
    obtain ⟨h1, h2⟩ := boolC_two h
    obtain ⟨h2, h3⟩ := boolC_two h2
    rw [eqA_spec h1, eqN_spec h2, eqC_spec h3]
  | .nilSlice, u, h => by cases u <;> simp only [eqV, Bool.false_eq_true] at h; rfl
  | .map n, u, h => by
    cases u <;> simp only [eqV, Bool.false_eq_true] at h
    rw [Nat.eq_of_beq_eq_true h]
  | .nilMap, u, h => by cases u <;> simp only [eqV, Bool.false_eq_true] at h; rfl
  | .func _ _ _, u, h => by cases u <;> simp only [eqV, Bool.false_eq_true] at h
  | .nilFunc, u, h => by cases u <;> simp only [eqV, Bool.false_eq_true] at h; rfl
  | .iface _ _, u, h => by cases u <;> simp only [eqV, Bool.false_eq_true] at h
  | .nilIface, u, h => by cases u <;> simp only [eqV, Bool.false_eq_true] at h; rfl
  | .agg l, u, h => by
    cases u <;> simp only [eqV, Bool.false_eq_true] at h
    rw [eqVL_spec l _ h]
  | .tuple l, u, h => by
    cases u <;> simp only [eqV, Bool.false_eq_true] at h
    rw [eqVL_spec l _ h]
  | .val _, u, h => by cases u <;> simp only [eqV, Bool.false_eq_true] at h
  | .tail _ _ _ _, u, h => by cases u <;> simp only [eqV, Bool.false_eq_true] at h
theorem eqVL_spec : (l m : List SV) → eqVL l m = true → l = m
  | [], m, h => by cases m <;> simp only [eqVL, Bool.false_eq_true] at h; rfl
  | v :: l, m, h => by
    cases m with
    | nil => simp only [eqVL, Bool.false_eq_true] at h
    | cons u m =>
      simp only [eqVL] at h
      obtain ⟨h1, h2⟩ := boolC_two h
      rw [eqV_spec v u h1, eqVL_spec l m h2]
end
noncomputable def eqEs : List (SV × SV × Nat) → List (SV × SV × Nat) → Bool
  | [], [] => true
  | v :: l, u :: m => boolC (eqV v.1 u.1) (boolC (eqV v.2.1 u.2.1) (boolC (Nat.beq v.2.2 u.2.2) (eqEs l m) false) false) false
  | _, _ => false
theorem eqEs_spec : ∀ (l m : List (SV × SV × Nat)), eqEs l m = true → l = m
  | [], m, h => by cases m <;> simp only [eqEs, Bool.false_eq_true] at h; rfl
  | v :: l, m, h => by
    cases m with
    | nil => simp only [eqEs, Bool.false_eq_true] at h
    | cons u m =>
      simp only [eqEs] at h
      obtain ⟨h1, g1⟩ := boolC_two h
      obtain ⟨h2, g2⟩ := boolC_two g1
      obtain ⟨h3, g3⟩ := boolC_two g2
      rw [eqEs_spec l m g3]
      have e1 : v.1 = u.1 := eqV_spec _ _ h1
      have e2 : v.2.1 = u.2.1 := eqV_spec _ _ h2
      have e3 : v.2.2 = u.2.2 := Nat.eq_of_beq_eq_true h3
      rw [show v = u from Prod.ext e1 (Prod.ext e2 e3)]
noncomputable def eqE (a b : SO) : Bool := match a, b with
  | .row (.lst l), .row (.lst m) => eqVL l m
  | .obj (.map es c), .obj (.map es' c') => boolC (eqEs es es') (Nat.beq c c') false
  | _, _ => false
theorem eqE_spec {a b : SO} (h : eqE a b = true) : a = b := by
  unfold eqE at h
  split at h
  · rw [eqVL_spec _ _ h]
  · obtain ⟨h1, h2⟩ := boolC_two h
    rw [eqEs_spec _ _ h1, Nat.eq_of_beq_eq_true h2]
  · cases h
noncomputable def eqEL : List SO → List SO → Bool
  | [], [] => true
  | v :: l, u :: m => boolC (eqE v u) (eqEL l m) false
  | _, _ => false
theorem eqEL_spec : ∀ (l m : List SO), eqEL l m = true → l = m
  | [], m, h => by cases m <;> simp only [eqEL, Bool.false_eq_true] at h; rfl
  | v :: l, m, h => by
    cases m with
    | nil => simp only [eqEL, Bool.false_eq_true] at h
    | cons u m =>
      simp only [eqEL] at h
      obtain ⟨h1, h2⟩ := boolC_two h
      rw [eqE_spec h1, eqEL_spec l m h2]
/-- a path's conditions, and what is made of its end -/
noncomputable def outG {γ : Type} (g : SV → List SO → γ) (t : Tree) : List Bool → (Nat → Nat → Nat) → List Prop × Option γ :=
  Tree.rec (motive := fun _ => List Bool → (Nat → Nat → Nat) → List Prop × Option γ) (fun v H _ _ => ([], some (g v H))) (fun _ _ _ => ([], none)) (fun p _ ih ds z => (p :: (ih ds z).1, (ih ds z).2))
    (fun b _ _ iht ihf ds z => List.rec (motive := fun _ => List Prop × Option γ) ([], none) (fun d r _ => ((b = d) :: (boolC d (iht r z) (ihf r z)).1, (boolC d (iht r z) (ihf r z)).2)) ds) (fun _ _ _ => ([], none)) (fun _ ih ds z => ih (z 0) ds fun i => z (i + 1)) t
theorem outG_ob {γ : Type} {g : SV → List SO → γ} {t : Tree} {y : γ} (h : ∀ z : Nat → Nat → Nat, ∃ ds ps, outG g t ds z = (ps, some y) ∧ ∀ p ∈ ps, p) : t.Ob (fun v H => g v H = y) fun _ => False := by
  have z0 : Nat → Nat → Nat := fun _ _ => 0
  induction t with
  | done v' H =>
    obtain ⟨ds, ps, h, _⟩ := h z0
    have h' : ([], some (g v' H)) = (ps, some y) := h
    exact Option.some.inj (Prod.mk.inj h').2
  | stop =>
    obtain ⟨ds, ps, h, _⟩ := h z0
    cases (Prod.mk.inj (show ([], none) = (ps, some y) from h)).2
  | need p t ih =>
    have h' : ∀ z, ∃ ds ps, (p :: (outG g t ds z).1, (outG g t ds z).2) = (ps, some y) ∧ ∀ q ∈ ps, q := h
    refine ⟨?_, ih fun z => ?_⟩
    · obtain ⟨ds, ps, h1, h2⟩ := h' z0
      exact h2 p (by rw [← (Prod.mk.inj h1).1]; exact List.mem_cons_self)
    · obtain ⟨ds, ps, h1, h2⟩ := h' z
      obtain ⟨e1, e2⟩ := Prod.mk.inj h1
      exact ⟨ds, (outG g t ds z).1, by rw [← e2], fun q hq => h2 q (by rw [← e1]; exact List.mem_cons_of_mem _ hq)⟩
  | fork b t f iht ihf =>
    have key : ∀ z, ∃ d r, b = d ∧ (boolC d (outG g t r z) (outG g f r z)).2 = some y ∧ ∀ q ∈ (boolC d (outG g t r z) (outG g f r z)).1, q := by
      intro z
      obtain ⟨ds, ps, h1, h2⟩ := h z
      cases ds with
      | nil => cases (Prod.mk.inj (show ([], none) = (ps, some y) from h1)).2
      | cons d r =>
        have h1 : ((b = d) :: (boolC d (outG g t r z) (outG g f r z)).1, (boolC d (outG g t r z) (outG g f r z)).2) = (ps, some y) := h1
        obtain ⟨e1, e2⟩ := Prod.mk.inj h1
        exact ⟨d, r, h2 _ (by rw [← e1]; exact List.mem_cons_self), e2, fun q hq => h2 q (by rw [← e1]; exact List.mem_cons_of_mem _ hq)⟩
    refine ⟨fun hb => iht fun z => ?_, fun hb => ihf fun z => ?_⟩
    · obtain ⟨d, r, hd, h1, h2⟩ := key z
      rw [hb] at hd
      subst hd
      exact ⟨r, (outG g t r z).1, Prod.ext rfl h1, h2⟩
    · obtain ⟨d, r, hd, h1, h2⟩ := key z
      rw [hb] at hd
      subst hd
      exact ⟨r, (outG g f r z).1, Prod.ext rfl h1, h2⟩
  | stuck =>
    obtain ⟨ds, ps, h, _⟩ := h z0
    cases (Prod.mk.inj (show ([], none) = (ps, some y) from h)).2
  | any k ih =>
    intro y
    refine ih y fun z => ?_
    let c : Nat → Nat → Nat := fun i => Nat.rec (motive := fun _ => Nat → Nat) y (fun j _ => z j) i
    exact h c
/-- what a run's end is az a result -/
noncomputable def endR (I : Ifc) (base : Nat) (v : SV) (H : List SO) : R SumRes := outM I base (ownedOf I.ents 0) (notKnown (lenN I.names) (reachN H 400 (app v.nms (ownedOf I.ents 0)) [])) v H
theorem outM_ends {I : Ifc} {base : Nat} {keep : List Nat} {v : SV} {H : List SO} {r : SumRes} (h : outM I base (ownedOf I.ents 0) keep v H = .ok r) : I.EndsX base r v H := by
  unfold outM at h
  cases hk : boolC (nodupN keep) (boolC (allN (fun j => Nat.ble (lenN I.names) j) keep) (boolC (v.uses (I.seen keep)) (boolC (keepsAt (I.seen keep) H (ownedOf I.ents 0)) (boolC (keepsAt (I.seen keep) H keep) (allN (fun m => optC (nth H m) false SO.owned) (app (ownedOf I.ents 0) keep)) false) false) false) false) false with
  | false => rw [hk] at h; cases h
  | true =>
    rw [hk] at h
    have h : R.ok _ = R.ok r := h
    cases h
    obtain ⟨k1, hk⟩ := boolC_two hk
    obtain ⟨k2, hk⟩ := boolC_two hk
    obtain ⟨k3, hk⟩ := boolC_two hk
    obtain ⟨k4, hk⟩ := boolC_two hk
    obtain ⟨k5, k6⟩ := boolC_two hk
    have hown : ∀ j ∈ ownedOf I.ents 0 ++ keep, ∀ e, H[j]? = some e → e.owned = true := by
      intro j hj e he
      have := allN_mem k6 j (by rw [app_eq]; exact hj)
      rw [nth_eq, he] at this
      exact this
    refine ⟨keep, fun j hj => ?_, nodupN_spec keep k1, SV.Imp.refl _, k3, setsQ_of fun j hj => ?_, newsQ_of fun j hj => ?_⟩
    · have := allN_mem k2 j hj
      rw [← lenN_eq]
      exact Nat.le_of_ble_eq_true this
    · obtain ⟨e, he, hk⟩ := keepsAt_get k4 hj
      exact ⟨e, he, hk, hown j (List.mem_append_left _ hj) e he⟩
    · obtain ⟨e, he, hk⟩ := keepsAt_get k5 hj
      exact ⟨e, he, hk, hown j (List.mem_append_right _ hj) e he⟩
end Go.Sim


/-
  The symbolic simulator, forty-first part: a summary told for one state alone, whatever is drawn.
-/
namespace Go.Sim
variable {α : Type}

noncomputable def fitB (ro : Bool) (M : List Nat) (args : List SV) (H : List SO) : Bool := boolC (nodupN M) (boolC (keepsAt (fun n => memN n M) H M) (boolC (SV.usesL (fun n => memN n M) args) (boolC (SV.usesL (smallI ro M args H).known (smallI ro M args H).args) (allN (fun e => e.keeps (smallI ro M args H).known) (smallI ro M args H).ents) false) false) false) false
theorem small_fits {P : Program} {ro : Bool} {O : Nat → Prop} {w0 w : World} {β : Val} {H : List SO} {args : List SV} {vs : List Value} {M : List Nat} (hok : fitB ro M args H = true) (_hH : HeapRel0 P O w0 β H w) (ha : SV.denL β args = some vs) :
    (smallI ro M args H).FitsQ H ∧ SV.denL β (SV.renL (smallI ro M args H).big (smallI ro M args H).args) = some vs := by
  unfold fitB at hok
  obtain ⟨h1, hok⟩ := boolC_two hok
  obtain ⟨h2, hok⟩ := boolC_two hok
  obtain ⟨h3, hok⟩ := boolC_two hok
  obtain ⟨h4, h5⟩ := boolC_two hok
  have hM : M.Nodup := nodupN_spec M h1
  have hround : ∀ n, memN n M = true → (smallI ro M args H).big (idxN n M) = n := by
    intro n hn
    show (nth M (idxN n M)).getD 0 = n
    rw [nth_eq, idxN_spec (memN_iff.1 hn)]
    rfl
  have hget : ∀ (j : Nat) (E : SO), (smallI ro M args H).ents[j]? = some E → ∃ m e, M[j]? = some m ∧ H[m]? = some e ∧ E = rowO ro (renO (fun n => idxN n M) e) ∧ e.keeps (fun n => memN n M) = true := by
    intro j E hE
    have hE : (mapN (fun m => rowO ro (renO (fun n => idxN n M) (atE (nth H m)))) M)[j]? = some E := hE
    rw [mapN_eq, List.getElem?_map] at hE
    cases hm : M[j]? with
    | none => rw [hm] at hE; cases hE
    | some m =>
      rw [hm] at hE
      obtain ⟨e, he, hk⟩ := keepsAt_get h2 (List.mem_of_getElem? hm)
      have hE : rowO ro (renO (fun n => idxN n M) (atE (nth H m))) = E := Option.some.inj hE
      rw [nth_eq, he] at hE
      exact ⟨m, e, rfl, he, hE.symm, hk⟩
  refine ⟨⟨?_, fun i j nm hi hj => ?_, h4, fun j E hE => ?_, fun j E hE => ?_⟩, ?_⟩
  · show (mapN _ M).length = M.length
    rw [mapN_eq, List.length_map]
  · exact (List.getElem?_inj (List.getElem?_eq_some_iff.1 hi).1 hM).1 (hi.trans hj.symm)
  · obtain ⟨m, e, hm, he, rfl, hk⟩ := hget j E hE
    have hb : (smallI ro M args H).big j = m := by
      show (nth M j).getD 0 = m
      rw [nth_eq, hm]; rfl
    exact ⟨e, by rw [hb]; exact he, taken_ro ro (taken_round hround hk)⟩
  · exact SO.keeps_cuses (allN_mem h5 E (List.mem_of_getElem? hE))
  · show SV.denL β (SV.renL (smallI ro M args H).big (SV.renL (fun n => idxN n M) args)) = some vs
    rw [SV.denL_ren, SV.denL_ren]
    rw [← SV.denL_uses (p := fun n => memN n M) (β := β) (fun n hn => by show β n = β ((smallI ro M args H).big (idxN n M)); rw [hround n hn]) args h3]
    exact ha
/-- the result of one path -/
noncomputable def getR (o : Option (R SumRes)) : SumRes := optC o ⟨.nilPtr, [], []⟩ fun r => R.rec (motive := fun _ => SumRes) (fun a => a) (fun _ _ ih => ih) (fun _ _ _ a _ => a) (fun _ => ⟨.nilPtr, [], []⟩) (fun _ ih => ih fun _ => 0) r
noncomputable def pathR (t : Tree) (ds : List Bool) (I : Ifc) (base : Nat) : SumRes := getR (outG (endR I base) t ds fun _ _ => 0).2
/-- A SUMMARY TOLD FOR ONE STATE -/
noncomputable def toldM (ro : Bool) (t : Tree) (ds : List Bool) (A : List SV) (E : List SO) (els : R SumRes) (args : List SV) (H : List SO) (base : Nat) (M : List Nat) : R SumRes :=
  boolC (boolC (fitB ro M args H) (boolC (eqVL (smallI ro M args H).args A) (eqEL (smallI ro M args H).ents E) false) false) (.ok (pathR t ds ⟨M, E, A⟩ base)) els
theorem toldM_sat {c : Cfg} (hc : CfgOK c) (hg : ∀ g, c.glob g = none) {n : Nat} {f : FuncId} {ro : Bool} {ds : List Bool} {A : List SV} {E : List SO} {els : R SumRes} {O : Nat → Prop} {w0 w : World} {β : Val} {H : List SO} {base : Nat} {args : List SV} {vs : List Value} (M : List Nat)
    (hT : ∀ M : List Nat, M.length = E.length → ∀ z, ∃ ds' ps, outG (endR ⟨M, E, A⟩ base) (callSim c n f A E) ds' z = (ps, some (.ok (pathR (callSim c n f A E) ds ⟨M, E, A⟩ base))) ∧ ∀ p ∈ ps, p)
    (hH : HeapRel0 c.P O w0 β H w) (ha : SV.denL β args = some vs) (he : els.Sat (SumSem c.P H β w base f vs)) : (toldM ro (callSim c n f A E) ds A E els args H base M).Sat (SumSem c.P H β w base f vs) := by
  unfold toldM
  cases hok : boolC (fitB ro M args H) (boolC (eqVL (smallI ro M args H).args A) (eqEL (smallI ro M args H).ents E) false) false with
  | false => exact he
  | true =>
    obtain ⟨h1, hok⟩ := boolC_two hok
    obtain ⟨h2, h3⟩ := boolC_two hok
    rw [boolC_true]
    obtain ⟨hI, ha'⟩ := small_fits h1 hH ha
    have e1 := eqVL_spec _ _ h2
    have e2 := eqEL_spec _ _ h3
    have e : smallI ro M args H = ⟨M, E, A⟩ := by
      have h : smallI ro M args H = ⟨M, (smallI ro M args H).ents, (smallI ro M args H).args⟩ := rfl
      rw [h, e1, e2]
    rw [e] at hI ha'
    show SumSem c.P H β w base f vs _
    exact sum_runX hc n hH ⟨M, E, A⟩ (fun g j h => by rw [hg g] at h; cases h) ha' hI ((outG_ob (hT M (hI.len.symm))).mono fun v H h => outM_ends h)
end Go.Sim

